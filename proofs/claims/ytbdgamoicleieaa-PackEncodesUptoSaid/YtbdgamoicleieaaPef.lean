/- Texts of this claim, one behind the other. -/
import Derived.Test.YtbdgamoicleieaaPee
import Derived.Laws.RangeAny
import Derived.Laws.RangeString
import Derived.KernelRfl
set_option linter.unusedVariables false
set_option linter.unusedSimpArgs false
section
set_option linter.unusedVariables false
set_option maxRecDepth 100000
set_option maxHeartbeats 4000000
namespace Go.Proofs
open Go.Vm
attribute [local irreducible] vOps vDraw vC vK retP retH PureSpec HSpec
def f67_k120 (x113 : Int) (c69k : Int → (List Int) → (List Int) → Option GAtE) (x157 : (List Int)) (x158 : (List Int)) : Option GAtE := (c69k (wr .i64 (x113 + 1)) x157 x158)
def f67_l131 (x127 : Node) (n : Nat) (a1 : Graph) (k120k : (List Int) → (List Int) → Option GAtE) : Nat → Int → (List Int) → (List Int) → Option GAtE
  | 0, _, _, _ => none
  | m131 + 1, x143, x144, x145 => (bif (decide (x143 < (len x127.fVals))) then ((gi x127.fVals x143).bind fun x152 => ((f103_b n [] [] [] x144 x145 a1.fNodes a1.fRoots 0 x127.fClass x127.fVals x152.fKind x152.fN).bind fun r154 => ((sameLen x144 r154.1).bind fun u156 => (f67_l131 x127 n a1 (k120k) m131 (wr .i64 (x143 + 1)) r154.1 r154.2)))) else (k120k x144 x145))
def f67_k221 (x215 : Int) (c165k : Int → (List Node) → Option GAtE) (x265 : (List Node)) : Option GAtE := (c165k (wr .i64 (x215 + 1)) x265)
def f67_k231 (x216 : (List Node)) (x228 : Node) (x215 : Int) (c165k : Int → (List Node) → Option GAtE) (x261 : (List Val)) : Option GAtE := ((app2 x216 [(Node.mk x228.fClass x261)]).bind fun l263 => (f67_k221 x215 (c165k) l263))
def f67_l234 (x228 : Node) (n : Nat) (x159 : (List Int)) (k231k : (List Val) → Option GAtE) : Nat → Int → (List Val) → Option GAtE
  | 0, _, _ => none
  | m234 + 1, x247, x248 => (bif (decide (x247 < (len x228.fVals))) then ((gi x228.fVals x247).bind fun x255 => ((f104 n x255 x159).bind fun r257 => ((app2 x248 [(Val.mk r257.fKind r257.fN)]).bind fun l259 => (f67_l234 x228 n x159 (k231k) m234 (wr .i64 (x247 + 1)) l259)))) else (k231k x248))
def f67_k267 (x266 : (List Node)) (x159 : (List Int)) (x297 : (List Val)) : Option GAtE := some (GAtE.mk (Graph.mk x266 x297) x159 0)
def f67_l270 (a1 : Graph) (n : Nat) (x159 : (List Int)) (k267k : (List Val) → Option GAtE) : Nat → Int → (List Val) → Option GAtE
  | 0, _, _ => none
  | m270 + 1, x283, x284 => (bif (decide (x283 < (len a1.fRoots))) then ((gi a1.fRoots x283).bind fun x291 => ((f104 n x291 x159).bind fun r293 => ((app2 x284 [(Val.mk r293.fKind r293.fN)]).bind fun l295 => (f67_l270 a1 n x159 (k267k) m270 (wr .i64 (x283 + 1)) l295)))) else (k267k x284))
def f67_k162 (n : Nat) (a1 : Graph) (x159 : (List Int)) (x266 : (List Node)) : Option GAtE := (f67_l270 a1 n x159 (f67_k267 x266 x159) n 0 [])
def f67_l165 (x160 : (List Int)) (a1 : Graph) (n : Nat) (x159 : (List Int)) (k162k : (List Node) → Option GAtE) : Nat → Int → (List Node) → Option GAtE
  | 0, _, _ => none
  | m165 + 1, x215, x216 => (bif (decide (x215 < (len x160))) then ((gi x160 x215).bind fun x224 => ((gi x160 x215).bind fun x226 => ((gi a1.fNodes x226).bind fun x228 => (f67_l234 x228 n x159 (f67_k231 x216 x228 x215 (f67_l165 x160 a1 n x159 (k162k) m165)) n 0 [])))) else (k162k x216))
def f67_k66 (n : Nat) (a1 : Graph) (x159 : (List Int)) (x160 : (List Int)) : Option GAtE := (f67_l165 x160 a1 n x159 (f67_k162 n a1 x159) n 0 [])
def f67_l69 (a1 : Graph) (n : Nat) (k66k : (List Int) → (List Int) → Option GAtE) : Nat → Int → (List Int) → (List Int) → Option GAtE
  | 0, _, _, _ => none
  | m69 + 1, x113, x114, x115 => (bif (decide (x113 < (len x115))) then ((gi x115 x113).bind fun x123 => ((gi x115 x113).bind fun x125 => ((gi a1.fNodes x125).bind fun x127 => (f67_l131 x127 n a1 (f67_k120 x113 (f67_l69 a1 n (k66k) m69)) n 0 x114 x115)))) else (k66k x114 x115))
def f67_k35 (n : Nat) (a1 : Graph) (x64 : (List Int)) (x65 : (List Int)) : Option GAtE := (f67_l69 a1 n (f67_k66 n a1) n 0 x64 x65)
def f67_l38 (a1 : Graph) (n : Nat) (k35k : (List Int) → (List Int) → Option GAtE) : Nat → Int → (List Int) → (List Int) → Option GAtE
  | 0, _, _, _ => none
  | m38 + 1, x50, x51, x52 => (bif (decide (x50 < (len a1.fRoots))) then ((gi a1.fRoots x50).bind fun x59 => ((f103 n [] [] [] x51 x52 a1.fNodes a1.fRoots 0 x59.fKind x59.fN).bind fun r61 => ((sameLen x51 r61.1).bind fun u63 => (f67_l38 a1 n (k35k) m38 (wr .i64 (x50 + 1)) r61.1 r61.2)))) else (k35k x51 x52))
def f67_k7 (n : Nat) (a1 : Graph) (x33 : (List Int)) : Option GAtE := (f67_l38 a1 n (f67_k35 n a1) n 0 x33 [])
def f67_l10 (k7k : (List Int) → Option GAtE) : Nat → Int → (List Int) → Option GAtE
  | 0, _, _ => none
  | m10 + 1, x21, x22 => (bif (decide (x21 < (len x22))) then ((gi x22 x21).bind fun x29 => ((gi x22 x21).bind fun x31 => (f67_l10 (k7k) m10 (wr .i64 (x21 + 1)) (setI x22 x21 (-1))))) else (k7k x22))
def f67 (n : Nat) (a1 : Graph) : Option GAtE := ((mkl (len a1.fNodes) 0).bind fun l5 => (f67_l10 (f67_k7 n a1) n 0 l5))
def f67_r (r : GAtE) : AV := (.agg [(vL Node.c r.fG.fNodes), (vL Val.c r.fG.fRoots), (vL cI r.fAt), (vI r.fE)])
theorem p_f67 {n : Nat} {a1 : Graph} {r : GAtE} (h : f67 n a1 = some r) : PureSpec Try.prog 67 [(.agg [(vL Node.c a1.fNodes), (vL Val.c a1.fRoots)])] (f67_r r) := by
 rw [f67.eq_1] at h
 refine pure_of hmix ic67 ?_
 refine go_to (mkd (.val undef) 141 0 [(0, (.agg [(vL Node.c a1.fNodes), (vL Val.c a1.fRoots)]))]) ?_
 refine s_so fun N2 k2 w2 => ?_
 refine o_h2 [(1, (.ptr 0 0)), (2, (.ptr 4 0))] [(some (.box 26 [(vL Node.c a1.fNodes), (vL Val.c a1.fRoots)])), (some (.row 57 2 (List.map Node.c []))), (some (.row 59 2 (List.map Val.c []))), (some (.row 3 1 (List.map cI []))), (some (.box 80 [(.own 1 0), (.own 2 0), (.own 3 0), (vI 0)]))] ?_
 refine o_end (k2 _ ?_)
 refine s_so fun N3 k3 w3 => ?_
 refine o_r2 [(16, (.ptr 0 0)), (17, (vL Node.c a1.fNodes))] ?_
 refine o_o (one_len (f := Node.c) (l := a1.fNodes)) ?_
 refine bnd h fun l5 g6 h => ?_
 refine o_x [(some (.box 26 [(vL Node.c a1.fNodes), (vL Val.c a1.fRoots)])), (some (.row 57 2 (List.map Node.c []))), (some (.row 59 2 (List.map Val.c []))), (some (.row 3 1 (List.map cI []))), (some (.box 80 [(.own 1 0), (.own 2 0), (.own 3 0), (vI 0)])), (some (.row 3 1 (List.map cI l5)))] (one_mks (f := cI) g6) ?_
 refine o_r1 [(3, (.own 5 (List.length l5)))] ?_
 refine o_end (k3 _ ?_)
 refine J1 (r := r) (fun (x33 : (List Int)) => ⟨(mkd .any 141 0 [(1, (.ptr 0 0)), (2, (.ptr 4 0)), (3, (.own 5 (List.length x33)))]), [(some (.box 26 [(vL Node.c a1.fNodes), (vL Val.c a1.fRoots)])), (some (.row 57 2 (List.map Node.c []))), (some (.row 59 2 (List.map Val.c []))), (some (.row 3 1 (List.map cI []))), (some (.box 80 [(.own 1 0), (.own 2 0), (.own 3 0), (vI 0)])), (some (.row 3 1 (List.map cI x33)))]⟩) (f67_k7 n a1) ?_ ?_
 · intro x33 h
   rw [f67_k7.eq_1] at h
   refine s_so fun N34 k34 w34 => ?_
   refine o_h1 [(5, (.own 6 0))] [(some (.box 26 [(vL Node.c a1.fNodes), (vL Val.c a1.fRoots)])), (some (.row 57 2 (List.map Node.c []))), (some (.row 59 2 (List.map Val.c []))), (some (.row 3 1 (List.map cI []))), (some (.box 80 [(.own 1 0), (.own 2 0), (.own 3 0), (vI 0)])), (some (.row 3 1 (List.map cI x33))), (some (.row 3 1 (List.map cI [])))] ?_
   refine o_end (k34 _ ?_)
   refine J2 (r := r) (fun (x64 : (List Int)) (x65 : (List Int)) => ⟨(mkd .any 141 0 [(1, (.ptr 0 0)), (2, (.ptr 4 0)), (3, (.own 5 (List.length x64))), (5, (.own 6 (List.length x65)))]), [(some (.box 26 [(vL Node.c a1.fNodes), (vL Val.c a1.fRoots)])), (some (.row 57 2 (List.map Node.c []))), (some (.row 59 2 (List.map Val.c []))), (some (.row 3 1 (List.map cI []))), (some (.box 80 [(.own 1 0), (.own 2 0), (.own 3 0), (vI 0)])), (some (.row 3 1 (List.map cI x64))), (some (.row 3 1 (List.map cI x65)))]⟩) (f67_k35 n a1) ?_ ?_
   · intro x64 x65 h
     rw [f67_k35.eq_1] at h
     refine J2 (r := r) (fun (x159 : (List Int)) (x160 : (List Int)) => ⟨(mkd .any 141 0 [(1, (.ptr 0 0)), (2, (.ptr 4 0)), (3, (.own 5 (List.length x159))), (5, (.own 6 (List.length x160)))]), [(some (.box 26 [(vL Node.c a1.fNodes), (vL Val.c a1.fRoots)])), (some (.row 57 2 (List.map Node.c []))), (some (.row 59 2 (List.map Val.c []))), (some (.row 3 1 (List.map cI []))), (some (.box 80 [(.own 1 0), (.own 2 0), (.own 3 0), (vI 0)])), (some (.row 3 1 (List.map cI x159))), (some (.row 3 1 (List.map cI x160)))]⟩) (f67_k66 n a1) ?_ ?_
     · intro x159 x160 h
       rw [f67_k66.eq_1] at h
       refine s_so fun N161 k161 w161 => ?_
       refine o_h4 [(10, (.ptr 10 0)), (73, (.own 5 (List.length x159))), (74, (.agg [(.val (.slice none 0 0)), (.val (.slice none 0 0)), (.own 5 (List.length x159)), (vI 0)]))] [(some (.box 26 [(vL Node.c a1.fNodes), (vL Val.c a1.fRoots)])), (some (.row 57 2 (List.map Node.c []))), (some (.row 59 2 (List.map Val.c []))), (some (.row 3 1 (List.map cI []))), (some (.box 80 [(.own 1 0), (.own 2 0), (.own 3 0), (vI 0)])), (some (.row 3 1 (List.map cI x159))), (some (.row 3 1 (List.map cI x160))), (some (.row 57 2 (List.map Node.c []))), (some (.row 59 2 (List.map Val.c []))), (some (.row 3 1 (List.map cI []))), (some (.box 80 [(.own 11 0), (.own 12 0), (.own 5 (List.length x159)), (vI 0)])), (some (.row 57 2 (List.map Node.c []))), (some (.row 59 2 (List.map Val.c [])))] ?_
       refine o_end (k161 _ ?_)
       refine J1 (r := r) (fun (x266 : (List Node)) => ⟨(mkd .any 141 0 [(1, (.ptr 0 0)), (2, (.ptr 4 0)), (3, (.own 5 (List.length x159))), (10, (.ptr 10 0))]), [(some (.box 26 [(vL Node.c a1.fNodes), (vL Val.c a1.fRoots)])), (some (.row 57 2 (List.map Node.c []))), (some (.row 59 2 (List.map Val.c []))), (some (.row 3 1 (List.map cI []))), (some (.box 80 [(.own 1 0), (.own 2 0), (.own 3 0), (vI 0)])), (some (.row 3 1 (List.map cI x159))), none, none, none, none, (some (.box 80 [(.own 11 (List.length x266)), (.own 12 0), (.own 5 (List.length x159)), (vI 0)])), (some (.row 57 2 (List.map Node.c x266))), (some (.row 59 2 (List.map Val.c [])))]⟩) (f67_k162 n a1 x159) ?_ ?_
       · intro x266 h
         rw [f67_k162.eq_1] at h
         refine J1 (r := r) (fun (x297 : (List Val)) => ⟨(mkd .any 141 0 [(2, (.ptr 4 0)), (10, (.ptr 10 0))]), [none, (some (.row 57 2 (List.map Node.c []))), (some (.row 59 2 (List.map Val.c []))), (some (.row 3 1 (List.map cI []))), (some (.box 80 [(.own 1 0), (.own 2 0), (.own 3 0), (vI 0)])), (some (.row 3 1 (List.map cI x159))), none, none, none, none, (some (.box 80 [(.own 11 (List.length x266)), (.own 12 (List.length x297)), (.own 5 (List.length x159)), (vI 0)])), (some (.row 57 2 (List.map Node.c x266))), (some (.row 59 2 (List.map Val.c x297)))]⟩) (f67_k267 x266 x159) ?_ ?_
         · intro x297 h
           rw [f67_k267.eq_1] at h
           refine s_so fun N298 k298 w298 => ?_
           refine o_h2 [(140, (.agg [(.own 11 (List.length x266)), (.own 12 (List.length x297)), (.own 5 (List.length x159)), (vI 0)]))] [none, (some (.row 57 2 (List.map Node.c []))), (some (.row 59 2 (List.map Val.c []))), (some (.row 3 1 (List.map cI []))), (some (.box 80 [(.own 11 (List.length x266)), (.own 12 (List.length x297)), (.own 5 (List.length x159)), (vI 0)])), (some (.row 3 1 (List.map cI x159))), none, none, none, none, (some (.box 80 [(.own 11 (List.length x266)), (.own 12 (List.length x297)), (.own 5 (List.length x159)), (vI 0)])), (some (.row 57 2 (List.map Node.c x266))), (some (.row 59 2 (List.map Val.c x297)))] ?_
           refine o_end (k298 _ ?_)
           exact c_ret (retsF [11, 12, 5] [(.agg [(.own 11 (List.length x266)), (.own 12 (List.length x297)), (.own 5 (List.length x159)), (vI 0)])] [(.agg [(vL Node.c x266), (vL Val.c x297), (vL cI x159), (vI 0)])] ⟨(fz_agg ⟨(fz_own (g := Node.c) (l := x266) (t := 57) (sz := 2) Node.p), (fz_own (g := Val.c) (l := x297) (t := 59) (sz := 2) Val.p), (fz_own (g := cI) (l := x159) (t := 3) (sz := 1) cK_p), fz_v, trivial⟩), trivial⟩ h)
         · intro N267 w267
           refine s_so fun N268 k268 w268 => ?_
           refine o_r1 [(15, (vI 0))] ?_
           refine o_end (k268 _ ?_)
           refine c_block fun E269 hE269 hO269 => ?_
           refine W2 (fun (x283 : Int) (x284 : (List Val)) => ⟨(mkd .any 141 0 [(1, (.ptr 0 0)), (2, (.ptr 4 0)), (3, (.own 5 (List.length x159))), (10, (.ptr 10 0)), (15, (vI x283))]), [(some (.box 26 [(vL Node.c a1.fNodes), (vL Val.c a1.fRoots)])), (some (.row 57 2 (List.map Node.c []))), (some (.row 59 2 (List.map Val.c []))), (some (.row 3 1 (List.map cI []))), (some (.box 80 [(.own 1 0), (.own 2 0), (.own 3 0), (vI 0)])), (some (.row 3 1 (List.map cI x159))), none, none, none, none, (some (.box 80 [(.own 11 (List.length x266)), (.own 12 (List.length x284)), (.own 5 (List.length x159)), (vI 0)])), (some (.row 57 2 (List.map Node.c x266))), (some (.row 59 2 (List.map Val.c x284)))]⟩) (f67_l270 a1 n x159 (f67_k267 x266 x159)) h (wkm [1, 2, 3, 10, 15] (whk (wh_keep (row_below Node.p _ _ _ _) (wh_keep (row_below Val.p _ _ _ _) (wh_keep (row_below cK_p _ _ _ _) (whk (wh_keep (row_below cK_p _ _ _ _) (wh_none (wh_none (wh_none (wh_none (whk (wh_keep (row_below Node.p _ _ _ _) (wh_keep (row_below Val.p _ _ _ _) wh_nil)))))))))))))) (by intros; rw [f67_l270.eq_1]) ?_
           intro m270 x283 x284 h N270 w270
           rw [f67_l270.eq_2] at h
           refine s_seq fun N285 k285 w285 => ?_
           refine s_so fun N286 k286 w286 => ?_
           refine o_r3 [(119, (vI x283)), (120, (.ptr 0 1)), (121, (vL Val.c a1.fRoots))] ?_
           refine o_o (one_len (f := Val.c) (l := a1.fRoots)) ?_
           refine o_r1 [(123, (vB (decide (x283 < (len a1.fRoots)))))] ?_
           refine o_end (k286 _ ?_)
           refine i_c [123] h (fun h => ?_) (fun h => ?_)
           · refine c_skip (k285 _ ?_)
             refine s_seq fun N289 k289 w289 => ?_
             refine c_block fun E290 hE290 hO290 => ?_
             refine c_draw0 ?_
             refine d_r6 [(126, (.ptr 10 0)), (127, (.ptr 10 1)), (128, (.own 12 (List.length x284))), (129, (.ptr 0 1)), (130, (vL Val.c a1.fRoots)), (131, (vI x283))] ?_
             refine bnd h fun x291 g292 h => ?_
             refine d_o (one_ia (f := Val.c) (ki := .i64) g292) ?_
             refine d_r2 [(133, (.agg [(vI x291.fKind), (vI x291.fN)])), (134, (.own 5 (List.length x159)))] ?_
             refine bnd h fun r293 g294 h => ?_
             refine d_o (one_callF [5] [(.agg [(vI x291.fKind), (vI x291.fN)]), (.own 5 (List.length x159))] (p_f104 g294) ⟨(fz_agg ⟨fz_v, fz_v, trivial⟩), (fz_own (g := cI) (l := x159) (t := 3) (sz := 1) cK_p), trivial⟩ (ns_agg (ns_cons (ns_v _) (ns_cons (ns_v _) ns_nil)))) ?_
             refine d_r1 [(136, (vL Val.c [(Val.mk r293.fKind r293.fN)]))] ?_
             refine bnd h fun l295 g296 h => ?_
             refine d_xe [(some (.box 26 [(vL Node.c a1.fNodes), (vL Val.c a1.fRoots)])), (some (.row 57 2 (List.map Node.c []))), (some (.row 59 2 (List.map Val.c []))), (some (.row 3 1 (List.map cI []))), (some (.box 80 [(.own 1 0), (.own 2 0), (.own 3 0), (vI 0)])), (some (.row 3 1 (List.map cI x159))), none, none, none, none, (some (.box 80 [(.own 11 (List.length x266)), (.own 12 (List.length x284)), (.own 5 (List.length x159)), (vI 0)])), (some (.row 57 2 (List.map Node.c x266))), (some (.row 59 2 (List.map Val.c l295)))] (one_app (f := Val.c) (o := 12) g296 (fun _ => ⟨rfl, rfl⟩)) (ra_cat (ra_cat (ra_cat (ra_cat (ra_cat ra_nil (ra_s (ra_s (ra_s (ra_s (ra_s (ra_s ra_nil))))))) (ra_s ra_nil)) (ra_s (ra_s ra_nil))) (ra_s ra_nil)) (ra_s ra_nil)) ?_
             refine d_r2 [(138, (.ptr 10 0)), (139, (.ptr 10 1))] ?_
             refine d_te (.val undef) [(some (.box 26 [(vL Node.c a1.fNodes), (vL Val.c a1.fRoots)])), (some (.row 57 2 (List.map Node.c []))), (some (.row 59 2 (List.map Val.c []))), (some (.row 3 1 (List.map cI []))), (some (.box 80 [(.own 1 0), (.own 2 0), (.own 3 0), (vI 0)])), (some (.row 3 1 (List.map cI x159))), none, none, none, none, (some (.box 80 [(.own 11 (List.length x266)), (.own 12 (List.length l295)), (.own 5 (List.length x159)), (vI 0)])), (some (.row 57 2 (List.map Node.c x266))), (some (.row 59 2 (List.map Val.c l295)))] (ra_cat (ra_cat (ra_cat (ra_cat (ra_cat (ra_cat ra_nil (ra_s (ra_s (ra_s (ra_s (ra_s (ra_s ra_nil))))))) (ra_s ra_nil)) (ra_s (ra_s ra_nil))) (ra_s ra_nil)) (ra_s ra_nil)) (ra_s (ra_s ra_nil))) ?_
             refine d_end (w289 _ ⟨(mkd .any 141 0 [(1, (.ptr 0 0)), (2, (.ptr 4 0)), (3, (.own 5 (List.length x159))), (10, (.ptr 10 0)), (15, (vI x283))]), [(some (.box 26 [(vL Node.c a1.fNodes), (vL Val.c a1.fRoots)])), (some (.row 57 2 (List.map Node.c []))), (some (.row 59 2 (List.map Val.c []))), (some (.row 3 1 (List.map cI []))), (some (.box 80 [(.own 1 0), (.own 2 0), (.own 3 0), (vI 0)])), (some (.row 3 1 (List.map cI x159))), none, none, none, none, (some (.box 80 [(.own 11 (List.length x266)), (.own 12 (List.length l295)), (.own 5 (List.length x159)), (vI 0)])), (some (.row 57 2 (List.map Node.c x266))), (some (.row 59 2 (List.map Val.c l295)))]⟩ (wkm [1, 2, 3, 10, 15] (whk (wh_keep (row_below Node.p _ _ _ _) (wh_keep (row_below Val.p _ _ _ _) (wh_keep (row_below cK_p _ _ _ _) (whk (wh_keep (row_below cK_p _ _ _ _) (wh_none (wh_none (wh_none (wh_none (whk (wh_keep (row_below Node.p _ _ _ _) (wh_keep (row_below Val.p _ _ _ _) wh_nil)))))))))))))) ?_)
             refine c_ops ?_
             refine o_r3 [(15, (vI (wr .i64 (x283 + 1)))), (124, (vI x283)), (125, (vI (wr .i64 (x283 + 1))))] ?_
             exact o_end (w270 _ _ _ (wkm [1, 2, 3, 10, 15] (whk (wh_keep (row_below Node.p _ _ _ _) (wh_keep (row_below Val.p _ _ _ _) (wh_keep (row_below cK_p _ _ _ _) (whk (wh_keep (row_below cK_p _ _ _ _) (wh_none (wh_none (wh_none (wh_none (whk (wh_keep (row_below Node.p _ _ _ _) (wh_keep (row_below Val.p _ _ _ _) wh_nil)))))))))))))) h)
           · refine c_exit (hE269 _ ?_)
             exact w267 _ _ (wkm [2, 10] (wh_drop (wh_keep (row_below Node.p _ _ _ _) (wh_keep (row_below Val.p _ _ _ _) (wh_keep (row_below cK_p _ _ _ _) (whk (wh_keep (row_below cK_p _ _ _ _) (wh_none (wh_none (wh_none (wh_none (whk (wh_keep (row_below Node.p _ _ _ _) (wh_keep (row_below Val.p _ _ _ _) wh_nil)))))))))))))) h
       · intro N162 w162
         refine s_so fun N163 k163 w163 => ?_
         refine o_r1 [(11, (vI 0))] ?_
         refine o_end (k163 _ ?_)
         refine c_block fun E164 hE164 hO164 => ?_
         refine W2 (fun (x215 : Int) (x216 : (List Node)) => ⟨(mkd .any 141 0 [(1, (.ptr 0 0)), (2, (.ptr 4 0)), (3, (.own 5 (List.length x159))), (5, (.own 6 (List.length x160))), (10, (.ptr 10 0)), (11, (vI x215))]), [(some (.box 26 [(vL Node.c a1.fNodes), (vL Val.c a1.fRoots)])), (some (.row 57 2 (List.map Node.c []))), (some (.row 59 2 (List.map Val.c []))), (some (.row 3 1 (List.map cI []))), (some (.box 80 [(.own 1 0), (.own 2 0), (.own 3 0), (vI 0)])), (some (.row 3 1 (List.map cI x159))), (some (.row 3 1 (List.map cI x160))), none, none, none, (some (.box 80 [(.own 11 (List.length x216)), (.own 12 0), (.own 5 (List.length x159)), (vI 0)])), (some (.row 57 2 (List.map Node.c x216))), (some (.row 59 2 (List.map Val.c [])))]⟩) (f67_l165 x160 a1 n x159 (f67_k162 n a1 x159)) h (wkm [1, 2, 3, 5, 10, 11] (whk (wh_keep (row_below Node.p _ _ _ _) (wh_keep (row_below Val.p _ _ _ _) (wh_keep (row_below cK_p _ _ _ _) (whk (wh_keep (row_below cK_p _ _ _ _) (wh_keep (row_below cK_p _ _ _ _) (wh_drop (wh_drop (wh_drop (whk (wh_keep (row_below Node.p _ _ _ _) (wh_keep (row_below Val.p _ _ _ _) wh_nil)))))))))))))) (by intros; rw [f67_l165.eq_1]) ?_
         intro m165 x215 x216 h N165 w165
         rw [f67_l165.eq_2] at h
         refine s_seq fun N217 k217 w217 => ?_
         refine s_so fun N218 k218 w218 => ?_
         refine o_r2 [(75, (vI x215)), (76, (.own 6 (List.length x160)))] ?_
         refine o_o (one_lenO (f := cI) (l := x160) (o := 6) (t := 3) (sz := 1)) ?_
         refine o_r1 [(78, (vB (decide (x215 < (len x160)))))] ?_
         refine o_end (k218 _ ?_)
         refine i_c [78] h (fun h => ?_) (fun h => ?_)
         · refine c_skip (k217 _ ?_)
           refine J1 (r := r) (fun (x265 : (List Node)) => ⟨(mkd .any 141 0 [(1, (.ptr 0 0)), (2, (.ptr 4 0)), (3, (.own 5 (List.length x159))), (5, (.own 6 (List.length x160))), (10, (.ptr 10 0)), (11, (vI x215))]), [(some (.box 26 [(vL Node.c a1.fNodes), (vL Val.c a1.fRoots)])), (some (.row 57 2 (List.map Node.c []))), (some (.row 59 2 (List.map Val.c []))), (some (.row 3 1 (List.map cI []))), (some (.box 80 [(.own 1 0), (.own 2 0), (.own 3 0), (vI 0)])), (some (.row 3 1 (List.map cI x159))), (some (.row 3 1 (List.map cI x160))), none, none, none, (some (.box 80 [(.own 11 (List.length x265)), (.own 12 0), (.own 5 (List.length x159)), (vI 0)])), (some (.row 57 2 (List.map Node.c x265))), (some (.row 59 2 (List.map Val.c [])))]⟩) (f67_k221 x215 (f67_l165 x160 a1 n x159 (f67_k162 n a1 x159) m165)) ?_ ?_
           · intro x265 h
             rw [f67_k221.eq_1] at h
             refine c_ops ?_
             refine o_r3 [(11, (vI (wr .i64 (x215 + 1)))), (79, (vI x215)), (80, (vI (wr .i64 (x215 + 1))))] ?_
             exact o_end (w165 _ _ _ (wkm [1, 2, 3, 5, 10, 11] (whk (wh_keep (row_below Node.p _ _ _ _) (wh_keep (row_below Val.p _ _ _ _) (wh_keep (row_below cK_p _ _ _ _) (whk (wh_keep (row_below cK_p _ _ _ _) (wh_keep (row_below cK_p _ _ _ _) (wh_none (wh_none (wh_none (whk (wh_keep (row_below Node.p _ _ _ _) (wh_keep (row_below Val.p _ _ _ _) wh_nil)))))))))))))) h)
           · intro N221 w221
             refine c_block fun E222 hE222 hO222 => ?_
             refine s_seq fun N223 k223 w223 => ?_
             refine c_draw0 ?_
             refine d_r4 [(81, (.ptr 0 0)), (82, (vL Node.c a1.fNodes)), (83, (.own 6 (List.length x160))), (84, (vI x215))] ?_
             refine bnd h fun x224 g225 h => ?_
             refine d_o (one_iaO (f := cI) (ki := .i64) (t := 3) (o := 6) g225) ?_
             refine bnd h fun x226 g227 h => ?_
             refine d_o (one_ldE (f := cI) (k := 0) (t := 3) (sz := 1) (o := 6) g227) ?_
             refine bnd h fun x228 g229 h => ?_
             refine d_o (one_ia (f := Node.c) (ki := .i64) g229) ?_
             refine d_r1 [(88, (.agg [(vS x228.fClass), (vL Val.c x228.fVals)]))] ?_
             refine d_te (.ptr 14 0) [(some (.box 26 [(vL Node.c a1.fNodes), (vL Val.c a1.fRoots)])), (some (.row 57 2 (List.map Node.c []))), (some (.row 59 2 (List.map Val.c []))), (some (.row 3 1 (List.map cI []))), (some (.box 80 [(.own 1 0), (.own 2 0), (.own 3 0), (vI 0)])), (some (.row 3 1 (List.map cI x159))), (some (.row 3 1 (List.map cI x160))), none, none, none, (some (.box 80 [(.own 11 (List.length x216)), (.own 12 0), (.own 5 (List.length x159)), (vI 0)])), (some (.row 57 2 (List.map Node.c x216))), (some (.row 59 2 (List.map Val.c []))), (some (.row 59 2 (List.map Val.c []))), (some (.box 57 [(vS (ByteArray.mk #[])), (.own 13 0)]))] (ra_cat (ra_cat (ra_cat (ra_cat (ra_cat ra_nil (ra_t (ra_t (ra_t (ra_t ra_nil))))) (ra_o (one_iaO (f := cI) (ki := .i64) (t := 3) (o := 6) g225) ra_nil)) (ra_o (one_ldE (f := cI) (k := 0) (t := 3) (sz := 1) (o := 6) g227) ra_nil)) (ra_o (one_ia (f := Node.c) (ki := .i64) g229) ra_nil)) (ra_t ra_nil)) ?_
             refine d_te (.val undef) [(some (.box 26 [(vL Node.c a1.fNodes), (vL Val.c a1.fRoots)])), (some (.row 57 2 (List.map Node.c []))), (some (.row 59 2 (List.map Val.c []))), (some (.row 3 1 (List.map cI []))), (some (.box 80 [(.own 1 0), (.own 2 0), (.own 3 0), (vI 0)])), (some (.row 3 1 (List.map cI x159))), (some (.row 3 1 (List.map cI x160))), none, none, none, (some (.box 80 [(.own 11 (List.length x216)), (.own 12 0), (.own 5 (List.length x159)), (vI 0)])), (some (.row 57 2 (List.map Node.c x216))), (some (.row 59 2 (List.map Val.c []))), (some (.row 59 2 (List.map Val.c []))), (some (.box 57 [(vS x228.fClass), (vL Val.c x228.fVals)]))] (ra_cat (ra_cat (ra_cat (ra_cat (ra_cat ra_nil (ra_s (ra_s (ra_s (ra_s ra_nil))))) (ra_s ra_nil)) (ra_s ra_nil)) (ra_s ra_nil)) (ra_s ra_nil)) ?_
             refine d_end (k223 _ ?_)
             refine s_so fun N230 k230 w230 => ?_
             refine o_h5 [(13, (.ptr 16 0)), (89, (.ptr 14 0)), (90, (vS x228.fClass)), (91, (.agg [(vS x228.fClass), (.val (.slice none 0 0))]))] [(some (.box 26 [(vL Node.c a1.fNodes), (vL Val.c a1.fRoots)])), (some (.row 57 2 (List.map Node.c []))), (some (.row 59 2 (List.map Val.c []))), (some (.row 3 1 (List.map cI []))), (some (.box 80 [(.own 1 0), (.own 2 0), (.own 3 0), (vI 0)])), (some (.row 3 1 (List.map cI x159))), (some (.row 3 1 (List.map cI x160))), none, none, none, (some (.box 80 [(.own 11 (List.length x216)), (.own 12 0), (.own 5 (List.length x159)), (vI 0)])), (some (.row 57 2 (List.map Node.c x216))), (some (.row 59 2 (List.map Val.c []))), (some (.row 59 2 (List.map Val.c []))), (some (.box 57 [(vS x228.fClass), (vL Val.c x228.fVals)])), (some (.row 59 2 (List.map Val.c []))), (some (.box 57 [(vS x228.fClass), (.own 17 0)])), (some (.row 59 2 (List.map Val.c [])))] ?_
             refine s_tm (mkd .any 141 0 [(1, (.ptr 0 0)), (2, (.ptr 4 0)), (3, (.own 5 (List.length x159))), (5, (.own 6 (List.length x160))), (10, (.ptr 10 0)), (11, (vI x215)), (12, (.ptr 14 0)), (13, (.ptr 16 0)), (75, (vI x215)), (76, (.own 6 (List.length x160))), (77, (vI (len x160))), (78, (vB true)), (81, (.ptr 0 0)), (82, (vL Node.c a1.fNodes)), (83, (.own 6 (List.length x160))), (84, (vI x215)), (85, (.eptr 6 (List.length x160) (Int.toNat x215) 0)), (86, (vI x226)), (87, (.iptr [(vS x228.fClass), (vL Val.c x228.fVals)])), (88, (.agg [(vS x228.fClass), (vL Val.c x228.fVals)])), (89, (.ptr 14 0)), (90, (vS x228.fClass)), (91, (.agg [(vS x228.fClass), (.val (.slice none 0 0))]))]) ?_
             refine o_end (k230 _ ?_)
             refine J1 (r := r) (fun (x261 : (List Val)) => ⟨(mkd .any 141 0 [(1, (.ptr 0 0)), (2, (.ptr 4 0)), (3, (.own 5 (List.length x159))), (5, (.own 6 (List.length x160))), (10, (.ptr 10 0)), (11, (vI x215)), (13, (.ptr 16 0))]), [(some (.box 26 [(vL Node.c a1.fNodes), (vL Val.c a1.fRoots)])), (some (.row 57 2 (List.map Node.c []))), (some (.row 59 2 (List.map Val.c []))), (some (.row 3 1 (List.map cI []))), (some (.box 80 [(.own 1 0), (.own 2 0), (.own 3 0), (vI 0)])), (some (.row 3 1 (List.map cI x159))), (some (.row 3 1 (List.map cI x160))), none, none, none, (some (.box 80 [(.own 11 (List.length x216)), (.own 12 0), (.own 5 (List.length x159)), (vI 0)])), (some (.row 57 2 (List.map Node.c x216))), (some (.row 59 2 (List.map Val.c []))), none, none, none, (some (.box 57 [(vS x228.fClass), (.own 17 (List.length x261))])), (some (.row 59 2 (List.map Val.c x261)))]⟩) (f67_k231 x216 x228 x215 (f67_l165 x160 a1 n x159 (f67_k162 n a1 x159) m165)) ?_ ?_
             · intro x261 h
               rw [f67_k231.eq_1] at h
               refine c_ops ?_
               refine o_r4 [(111, (.ptr 10 0)), (112, (.ptr 10 0)), (113, (.own 11 (List.length x216))), (114, (.agg [(vS x228.fClass), (.own 17 (List.length x261))]))] ?_
               refine o_x [(some (.box 26 [(vL Node.c a1.fNodes), (vL Val.c a1.fRoots)])), (some (.row 57 2 (List.map Node.c []))), (some (.row 59 2 (List.map Val.c []))), (some (.row 3 1 (List.map cI []))), (some (.box 80 [(.own 1 0), (.own 2 0), (.own 3 0), (vI 0)])), (some (.row 3 1 (List.map cI x159))), (some (.row 3 1 (List.map cI x160))), none, none, none, (some (.box 80 [(.own 11 (List.length x216)), (.own 12 0), (.own 5 (List.length x159)), (vI 0)])), (some (.row 57 2 (List.map Node.c x216))), (some (.row 59 2 (List.map Val.c []))), none, none, none, (some (.box 57 [(vS x228.fClass), (.own 17 (List.length x261))])), none, (some (.row 57 2 (List.map Node.c [(Node.mk x228.fClass x261)])))] (one_bsl (f := Node.c) (ys := [(vS x228.fClass), (vL Val.c x261)]) [(Node.mk x228.fClass x261)] [[(vS x228.fClass), (.own 17 (List.length x261))]] [17] (rl_v (rl_own (g := Val.c) (l := x261) (t := 59) (sz := 2) Val.p rl_nil))) ?_
               refine bnd h fun l263 g264 h => ?_
               refine o_x [(some (.box 26 [(vL Node.c a1.fNodes), (vL Val.c a1.fRoots)])), (some (.row 57 2 (List.map Node.c []))), (some (.row 59 2 (List.map Val.c []))), (some (.row 3 1 (List.map cI []))), (some (.box 80 [(.own 1 0), (.own 2 0), (.own 3 0), (vI 0)])), (some (.row 3 1 (List.map cI x159))), (some (.row 3 1 (List.map cI x160))), none, none, none, (some (.box 80 [(.own 11 (List.length x216)), (.own 12 0), (.own 5 (List.length x159)), (vI 0)])), (some (.row 57 2 (List.map Node.c l263))), (some (.row 59 2 (List.map Val.c []))), none, none, none, (some (.box 57 [(vS x228.fClass), (.own 17 (List.length x261))])), none, (some (.row 57 2 (List.map Node.c [(Node.mk x228.fClass x261)])))] (one_app (f := Node.c) (o := 11) g264 (fun _ => ⟨rfl, rfl⟩) (hy := asL_own (t := 57) (sz := 2) (by kernel_rfl))) ?_
               refine o_h3 [(117, (.ptr 10 0)), (118, (.ptr 10 0))] [(some (.box 26 [(vL Node.c a1.fNodes), (vL Val.c a1.fRoots)])), (some (.row 57 2 (List.map Node.c []))), (some (.row 59 2 (List.map Val.c []))), (some (.row 3 1 (List.map cI []))), (some (.box 80 [(.own 1 0), (.own 2 0), (.own 3 0), (vI 0)])), (some (.row 3 1 (List.map cI x159))), (some (.row 3 1 (List.map cI x160))), none, none, none, (some (.box 80 [(.own 11 (List.length l263)), (.own 12 0), (.own 5 (List.length x159)), (vI 0)])), (some (.row 57 2 (List.map Node.c l263))), (some (.row 59 2 (List.map Val.c []))), none, none, none, (some (.box 57 [(vS x228.fClass), (.own 17 (List.length x261))])), none, (some (.row 57 2 (List.map Node.c [(Node.mk x228.fClass x261)])))] ?_
               exact o_end (w221 _ _ (wkm [1, 2, 3, 5, 10, 11] (whk (wh_keep (row_below Node.p _ _ _ _) (wh_keep (row_below Val.p _ _ _ _) (wh_keep (row_below cK_p _ _ _ _) (whk (wh_keep (row_below cK_p _ _ _ _) (wh_keep (row_below cK_p _ _ _ _) (wh_none (wh_none (wh_none (whk (wh_keep (row_below Node.p _ _ _ _) (wh_keep (row_below Val.p _ _ _ _) wh_nil)))))))))))))) h)
             · intro N231 w231
               refine s_so fun N232 k232 w232 => ?_
               refine o_r1 [(14, (vI 0))] ?_
               refine o_end (k232 _ ?_)
               refine c_block fun E233 hE233 hO233 => ?_
               refine W2 (fun (x247 : Int) (x248 : (List Val)) => ⟨(mkd .any 141 0 [(1, (.ptr 0 0)), (2, (.ptr 4 0)), (3, (.own 5 (List.length x159))), (5, (.own 6 (List.length x160))), (10, (.ptr 10 0)), (11, (vI x215)), (12, (.ptr 14 0)), (13, (.ptr 16 0)), (14, (vI x247))]), [(some (.box 26 [(vL Node.c a1.fNodes), (vL Val.c a1.fRoots)])), (some (.row 57 2 (List.map Node.c []))), (some (.row 59 2 (List.map Val.c []))), (some (.row 3 1 (List.map cI []))), (some (.box 80 [(.own 1 0), (.own 2 0), (.own 3 0), (vI 0)])), (some (.row 3 1 (List.map cI x159))), (some (.row 3 1 (List.map cI x160))), none, none, none, (some (.box 80 [(.own 11 (List.length x216)), (.own 12 0), (.own 5 (List.length x159)), (vI 0)])), (some (.row 57 2 (List.map Node.c x216))), (some (.row 59 2 (List.map Val.c []))), none, (some (.box 57 [(vS x228.fClass), (vL Val.c x228.fVals)])), none, (some (.box 57 [(vS x228.fClass), (.own 17 (List.length x248))])), (some (.row 59 2 (List.map Val.c x248)))]⟩) (f67_l234 x228 n x159 (f67_k231 x216 x228 x215 (f67_l165 x160 a1 n x159 (f67_k162 n a1 x159) m165))) h (wkm [1, 2, 3, 5, 10, 11, 12, 13, 14] (whk (wh_keep (row_below Node.p _ _ _ _) (wh_keep (row_below Val.p _ _ _ _) (wh_keep (row_below cK_p _ _ _ _) (whk (wh_keep (row_below cK_p _ _ _ _) (wh_keep (row_below cK_p _ _ _ _) (wh_none (wh_none (wh_none (whk (wh_keep (row_below Node.p _ _ _ _) (wh_keep (row_below Val.p _ _ _ _) (wh_drop (whk (wh_drop (whk (wh_keep (row_below Val.p _ _ _ _) wh_nil))))))))))))))))))) (by intros; rw [f67_l234.eq_1]) ?_
               intro m234 x247 x248 h N234 w234
               rw [f67_l234.eq_2] at h
               refine s_seq fun N249 k249 w249 => ?_
               refine s_so fun N250 k250 w250 => ?_
               refine o_r3 [(92, (vI x247)), (93, (.ptr 14 1)), (94, (vL Val.c x228.fVals))] ?_
               refine o_o (one_len (f := Val.c) (l := x228.fVals)) ?_
               refine o_r1 [(96, (vB (decide (x247 < (len x228.fVals)))))] ?_
               refine o_end (k250 _ ?_)
               refine i_c [96] h (fun h => ?_) (fun h => ?_)
               · refine c_skip (k249 _ ?_)
                 refine s_seq fun N253 k253 w253 => ?_
                 refine c_block fun E254 hE254 hO254 => ?_
                 refine c_draw0 ?_
                 refine d_r5 [(99, (.ptr 16 1)), (100, (.own 17 (List.length x248))), (101, (.ptr 14 1)), (102, (vL Val.c x228.fVals)), (103, (vI x247))] ?_
                 refine bnd h fun x255 g256 h => ?_
                 refine d_o (one_ia (f := Val.c) (ki := .i64) g256) ?_
                 refine d_r2 [(105, (.agg [(vI x255.fKind), (vI x255.fN)])), (106, (.own 5 (List.length x159)))] ?_
                 refine bnd h fun r257 g258 h => ?_
                 refine d_o (one_callF [5] [(.agg [(vI x255.fKind), (vI x255.fN)]), (.own 5 (List.length x159))] (p_f104 g258) ⟨(fz_agg ⟨fz_v, fz_v, trivial⟩), (fz_own (g := cI) (l := x159) (t := 3) (sz := 1) cK_p), trivial⟩ (ns_agg (ns_cons (ns_v _) (ns_cons (ns_v _) ns_nil)))) ?_
                 refine d_r1 [(108, (vL Val.c [(Val.mk r257.fKind r257.fN)]))] ?_
                 refine bnd h fun l259 g260 h => ?_
                 refine d_xe [(some (.box 26 [(vL Node.c a1.fNodes), (vL Val.c a1.fRoots)])), (some (.row 57 2 (List.map Node.c []))), (some (.row 59 2 (List.map Val.c []))), (some (.row 3 1 (List.map cI []))), (some (.box 80 [(.own 1 0), (.own 2 0), (.own 3 0), (vI 0)])), (some (.row 3 1 (List.map cI x159))), (some (.row 3 1 (List.map cI x160))), none, none, none, (some (.box 80 [(.own 11 (List.length x216)), (.own 12 0), (.own 5 (List.length x159)), (vI 0)])), (some (.row 57 2 (List.map Node.c x216))), (some (.row 59 2 (List.map Val.c []))), none, (some (.box 57 [(vS x228.fClass), (vL Val.c x228.fVals)])), none, (some (.box 57 [(vS x228.fClass), (.own 17 (List.length x248))])), (some (.row 59 2 (List.map Val.c l259)))] (one_app (f := Val.c) (o := 17) g260 (fun _ => ⟨rfl, rfl⟩)) (ra_cat (ra_cat (ra_cat (ra_cat (ra_cat ra_nil (ra_s (ra_s (ra_s (ra_s (ra_s ra_nil)))))) (ra_s ra_nil)) (ra_s (ra_s ra_nil))) (ra_s ra_nil)) (ra_s ra_nil)) ?_
                 refine d_r1 [(110, (.ptr 16 1))] ?_
                 refine d_te (.val undef) [(some (.box 26 [(vL Node.c a1.fNodes), (vL Val.c a1.fRoots)])), (some (.row 57 2 (List.map Node.c []))), (some (.row 59 2 (List.map Val.c []))), (some (.row 3 1 (List.map cI []))), (some (.box 80 [(.own 1 0), (.own 2 0), (.own 3 0), (vI 0)])), (some (.row 3 1 (List.map cI x159))), (some (.row 3 1 (List.map cI x160))), none, none, none, (some (.box 80 [(.own 11 (List.length x216)), (.own 12 0), (.own 5 (List.length x159)), (vI 0)])), (some (.row 57 2 (List.map Node.c x216))), (some (.row 59 2 (List.map Val.c []))), none, (some (.box 57 [(vS x228.fClass), (vL Val.c x228.fVals)])), none, (some (.box 57 [(vS x228.fClass), (.own 17 (List.length l259))])), (some (.row 59 2 (List.map Val.c l259)))] (ra_cat (ra_cat (ra_cat (ra_cat (ra_cat (ra_cat ra_nil (ra_s (ra_s (ra_s (ra_s (ra_s ra_nil)))))) (ra_s ra_nil)) (ra_s (ra_s ra_nil))) (ra_s ra_nil)) (ra_s ra_nil)) (ra_s ra_nil)) ?_
                 refine d_end (w253 _ ⟨(mkd .any 141 0 [(1, (.ptr 0 0)), (2, (.ptr 4 0)), (3, (.own 5 (List.length x159))), (5, (.own 6 (List.length x160))), (10, (.ptr 10 0)), (11, (vI x215)), (12, (.ptr 14 0)), (13, (.ptr 16 0)), (14, (vI x247))]), [(some (.box 26 [(vL Node.c a1.fNodes), (vL Val.c a1.fRoots)])), (some (.row 57 2 (List.map Node.c []))), (some (.row 59 2 (List.map Val.c []))), (some (.row 3 1 (List.map cI []))), (some (.box 80 [(.own 1 0), (.own 2 0), (.own 3 0), (vI 0)])), (some (.row 3 1 (List.map cI x159))), (some (.row 3 1 (List.map cI x160))), none, none, none, (some (.box 80 [(.own 11 (List.length x216)), (.own 12 0), (.own 5 (List.length x159)), (vI 0)])), (some (.row 57 2 (List.map Node.c x216))), (some (.row 59 2 (List.map Val.c []))), none, (some (.box 57 [(vS x228.fClass), (vL Val.c x228.fVals)])), none, (some (.box 57 [(vS x228.fClass), (.own 17 (List.length l259))])), (some (.row 59 2 (List.map Val.c l259)))]⟩ (wkm [1, 2, 3, 5, 10, 11, 12, 13, 14] (whk (wh_keep (row_below Node.p _ _ _ _) (wh_keep (row_below Val.p _ _ _ _) (wh_keep (row_below cK_p _ _ _ _) (whk (wh_keep (row_below cK_p _ _ _ _) (wh_keep (row_below cK_p _ _ _ _) (wh_none (wh_none (wh_none (whk (wh_keep (row_below Node.p _ _ _ _) (wh_keep (row_below Val.p _ _ _ _) (wh_none (whk (wh_none (whk (wh_keep (row_below Val.p _ _ _ _) wh_nil))))))))))))))))))) ?_)
                 refine c_ops ?_
                 refine o_r3 [(14, (vI (wr .i64 (x247 + 1)))), (97, (vI x247)), (98, (vI (wr .i64 (x247 + 1))))] ?_
                 exact o_end (w234 _ _ _ (wkm [1, 2, 3, 5, 10, 11, 12, 13, 14] (whk (wh_keep (row_below Node.p _ _ _ _) (wh_keep (row_below Val.p _ _ _ _) (wh_keep (row_below cK_p _ _ _ _) (whk (wh_keep (row_below cK_p _ _ _ _) (wh_keep (row_below cK_p _ _ _ _) (wh_none (wh_none (wh_none (whk (wh_keep (row_below Node.p _ _ _ _) (wh_keep (row_below Val.p _ _ _ _) (wh_none (whk (wh_none (whk (wh_keep (row_below Val.p _ _ _ _) wh_nil))))))))))))))))))) h)
               · refine c_exit (hE233 _ ?_)
                 exact w231 _ _ (wkm [1, 2, 3, 5, 10, 11, 13] (whk (wh_keep (row_below Node.p _ _ _ _) (wh_keep (row_below Val.p _ _ _ _) (wh_keep (row_below cK_p _ _ _ _) (whk (wh_keep (row_below cK_p _ _ _ _) (wh_keep (row_below cK_p _ _ _ _) (wh_none (wh_none (wh_none (whk (wh_keep (row_below Node.p _ _ _ _) (wh_keep (row_below Val.p _ _ _ _) (wh_none (wh_drop (wh_none (whk (wh_keep (row_below Val.p _ _ _ _) wh_nil))))))))))))))))))) h
         · refine c_exit (hE164 _ ?_)
           exact w162 _ _ (wkm [1, 2, 3, 10] (whk (wh_keep (row_below Node.p _ _ _ _) (wh_keep (row_below Val.p _ _ _ _) (wh_keep (row_below cK_p _ _ _ _) (whk (wh_keep (row_below cK_p _ _ _ _) (wh_drop (wh_none (wh_none (wh_none (whk (wh_keep (row_below Node.p _ _ _ _) (wh_keep (row_below Val.p _ _ _ _) wh_nil)))))))))))))) h
     · intro N66 w66
       refine s_so fun N67 k67 w67 => ?_
       refine o_r1 [(7, (vI 0))] ?_
       refine o_end (k67 _ ?_)
       refine c_block fun E68 hE68 hO68 => ?_
       refine W3 (fun (x113 : Int) (x114 : (List Int)) (x115 : (List Int)) => ⟨(mkd .any 141 0 [(1, (.ptr 0 0)), (2, (.ptr 4 0)), (3, (.own 5 (List.length x114))), (5, (.own 6 (List.length x115))), (7, (vI x113))]), [(some (.box 26 [(vL Node.c a1.fNodes), (vL Val.c a1.fRoots)])), (some (.row 57 2 (List.map Node.c []))), (some (.row 59 2 (List.map Val.c []))), (some (.row 3 1 (List.map cI []))), (some (.box 80 [(.own 1 0), (.own 2 0), (.own 3 0), (vI 0)])), (some (.row 3 1 (List.map cI x114))), (some (.row 3 1 (List.map cI x115)))]⟩) (f67_l69 a1 n (f67_k66 n a1)) h (wkm [1, 2, 3, 5, 7] (whk (wh_keep (row_below Node.p _ _ _ _) (wh_keep (row_below Val.p _ _ _ _) (wh_keep (row_below cK_p _ _ _ _) (whk (wh_keep (row_below cK_p _ _ _ _) (wh_keep (row_below cK_p _ _ _ _) wh_nil)))))))) (by intros; rw [f67_l69.eq_1]) ?_
       intro m69 x113 x114 x115 h N69 w69
       rw [f67_l69.eq_2] at h
       refine s_seq fun N116 k116 w116 => ?_
       refine s_so fun N117 k117 w117 => ?_
       refine o_r2 [(44, (vI x113)), (45, (.own 6 (List.length x115)))] ?_
       refine o_o (one_lenO (f := cI) (l := x115) (o := 6) (t := 3) (sz := 1)) ?_
       refine o_r1 [(47, (vB (decide (x113 < (len x115)))))] ?_
       refine o_end (k117 _ ?_)
       refine i_c [47] h (fun h => ?_) (fun h => ?_)
       · refine c_skip (k116 _ ?_)
         refine J2 (r := r) (fun (x157 : (List Int)) (x158 : (List Int)) => ⟨(mkd .any 141 0 [(1, (.ptr 0 0)), (2, (.ptr 4 0)), (3, (.own 5 (List.length x157))), (5, (.own 6 (List.length x158))), (7, (vI x113))]), [(some (.box 26 [(vL Node.c a1.fNodes), (vL Val.c a1.fRoots)])), (some (.row 57 2 (List.map Node.c []))), (some (.row 59 2 (List.map Val.c []))), (some (.row 3 1 (List.map cI []))), (some (.box 80 [(.own 1 0), (.own 2 0), (.own 3 0), (vI 0)])), (some (.row 3 1 (List.map cI x157))), (some (.row 3 1 (List.map cI x158)))]⟩) (f67_k120 x113 (f67_l69 a1 n (f67_k66 n a1) m69)) ?_ ?_
         · intro x157 x158 h
           rw [f67_k120.eq_1] at h
           refine c_ops ?_
           refine o_r3 [(7, (vI (wr .i64 (x113 + 1)))), (48, (vI x113)), (49, (vI (wr .i64 (x113 + 1))))] ?_
           exact o_end (w69 _ _ _ _ (wkm [1, 2, 3, 5, 7] (whk (wh_keep (row_below Node.p _ _ _ _) (wh_keep (row_below Val.p _ _ _ _) (wh_keep (row_below cK_p _ _ _ _) (whk (wh_keep (row_below cK_p _ _ _ _) (wh_keep (row_below cK_p _ _ _ _) wh_nil)))))))) h)
         · intro N120 w120
           refine c_block fun E121 hE121 hO121 => ?_
           refine s_seq fun N122 k122 w122 => ?_
           refine c_draw0 ?_
           refine d_r4 [(50, (.ptr 0 0)), (51, (vL Node.c a1.fNodes)), (52, (.own 6 (List.length x115))), (53, (vI x113))] ?_
           refine bnd h fun x123 g124 h => ?_
           refine d_o (one_iaO (f := cI) (ki := .i64) (t := 3) (o := 6) g124) ?_
           refine bnd h fun x125 g126 h => ?_
           refine d_o (one_ldE (f := cI) (k := 0) (t := 3) (sz := 1) (o := 6) g126) ?_
           refine bnd h fun x127 g128 h => ?_
           refine d_o (one_ia (f := Node.c) (ki := .i64) g128) ?_
           refine d_r1 [(57, (.agg [(vS x127.fClass), (vL Val.c x127.fVals)]))] ?_
           refine d_te (.ptr 8 0) [(some (.box 26 [(vL Node.c a1.fNodes), (vL Val.c a1.fRoots)])), (some (.row 57 2 (List.map Node.c []))), (some (.row 59 2 (List.map Val.c []))), (some (.row 3 1 (List.map cI []))), (some (.box 80 [(.own 1 0), (.own 2 0), (.own 3 0), (vI 0)])), (some (.row 3 1 (List.map cI x114))), (some (.row 3 1 (List.map cI x115))), (some (.row 59 2 (List.map Val.c []))), (some (.box 57 [(vS (ByteArray.mk #[])), (.own 7 0)]))] (ra_cat (ra_cat (ra_cat (ra_cat (ra_cat ra_nil (ra_t (ra_t (ra_t (ra_t ra_nil))))) (ra_o (one_iaO (f := cI) (ki := .i64) (t := 3) (o := 6) g124) ra_nil)) (ra_o (one_ldE (f := cI) (k := 0) (t := 3) (sz := 1) (o := 6) g126) ra_nil)) (ra_o (one_ia (f := Node.c) (ki := .i64) g128) ra_nil)) (ra_t ra_nil)) ?_
           refine d_te (.val undef) [(some (.box 26 [(vL Node.c a1.fNodes), (vL Val.c a1.fRoots)])), (some (.row 57 2 (List.map Node.c []))), (some (.row 59 2 (List.map Val.c []))), (some (.row 3 1 (List.map cI []))), (some (.box 80 [(.own 1 0), (.own 2 0), (.own 3 0), (vI 0)])), (some (.row 3 1 (List.map cI x114))), (some (.row 3 1 (List.map cI x115))), (some (.row 59 2 (List.map Val.c []))), (some (.box 57 [(vS x127.fClass), (vL Val.c x127.fVals)]))] (ra_cat (ra_cat (ra_cat (ra_cat (ra_cat ra_nil (ra_s (ra_s (ra_s (ra_s ra_nil))))) (ra_s ra_nil)) (ra_s ra_nil)) (ra_s ra_nil)) (ra_s ra_nil)) ?_
           refine d_end (k122 _ ?_)
           refine s_so fun N129 k129 w129 => ?_
           refine o_r1 [(9, (vI 0))] ?_
           refine s_tm (mkd .any 141 0 [(1, (.ptr 0 0)), (2, (.ptr 4 0)), (3, (.own 5 (List.length x114))), (5, (.own 6 (List.length x115))), (7, (vI x113)), (8, (.ptr 8 0)), (9, (vI 0)), (44, (vI x113)), (45, (.own 6 (List.length x115))), (46, (vI (len x115))), (47, (vB true)), (50, (.ptr 0 0)), (51, (vL Node.c a1.fNodes)), (52, (.own 6 (List.length x115))), (53, (vI x113)), (54, (.eptr 6 (List.length x115) (Int.toNat x113) 0)), (55, (vI x125)), (56, (.iptr [(vS x127.fClass), (vL Val.c x127.fVals)])), (57, (.agg [(vS x127.fClass), (vL Val.c x127.fVals)]))]) ?_
           refine o_end (k129 _ ?_)
           refine c_block fun E130 hE130 hO130 => ?_
           refine W3 (fun (x143 : Int) (x144 : (List Int)) (x145 : (List Int)) => ⟨(mkd .any 141 0 [(1, (.ptr 0 0)), (2, (.ptr 4 0)), (3, (.own 5 (List.length x144))), (5, (.own 6 (List.length x145))), (7, (vI x113)), (8, (.ptr 8 0)), (9, (vI x143))]), [(some (.box 26 [(vL Node.c a1.fNodes), (vL Val.c a1.fRoots)])), (some (.row 57 2 (List.map Node.c []))), (some (.row 59 2 (List.map Val.c []))), (some (.row 3 1 (List.map cI []))), (some (.box 80 [(.own 1 0), (.own 2 0), (.own 3 0), (vI 0)])), (some (.row 3 1 (List.map cI x144))), (some (.row 3 1 (List.map cI x145))), none, (some (.box 57 [(vS x127.fClass), (vL Val.c x127.fVals)]))]⟩) (f67_l131 x127 n a1 (f67_k120 x113 (f67_l69 a1 n (f67_k66 n a1) m69))) h (wkm [1, 2, 3, 5, 7, 8, 9] (whk (wh_keep (row_below Node.p _ _ _ _) (wh_keep (row_below Val.p _ _ _ _) (wh_keep (row_below cK_p _ _ _ _) (whk (wh_keep (row_below cK_p _ _ _ _) (wh_keep (row_below cK_p _ _ _ _) (wh_drop (whk wh_nil)))))))))) (by intros; rw [f67_l131.eq_1]) ?_
           intro m131 x143 x144 x145 h N131 w131
           rw [f67_l131.eq_2] at h
           refine s_seq fun N146 k146 w146 => ?_
           refine s_so fun N147 k147 w147 => ?_
           refine o_r3 [(58, (vI x143)), (59, (.ptr 8 1)), (60, (vL Val.c x127.fVals))] ?_
           refine o_o (one_len (f := Val.c) (l := x127.fVals)) ?_
           refine o_r1 [(62, (vB (decide (x143 < (len x127.fVals)))))] ?_
           refine o_end (k147 _ ?_)
           refine i_c [62] h (fun h => ?_) (fun h => ?_)
           · refine c_skip (k146 _ ?_)
             refine s_seq fun N150 k150 w150 => ?_
             refine c_block fun E151 hE151 hO151 => ?_
             refine c_ops ?_
             refine o_r5 [(65, (.own 6 (List.length x145))), (66, (.own 5 (List.length x144))), (67, (.ptr 8 1)), (68, (vL Val.c x127.fVals)), (69, (vI x143))] ?_
             refine bnd h fun x152 g153 h => ?_
             refine o_o (one_ia (f := Val.c) (ki := .i64) g153) ?_
             refine o_r1 [(71, (.agg [(vI x152.fKind), (vI x152.fN)]))] ?_
             refine bnd h fun r154 g155 h => ?_
             refine o_x [(some (.box 26 [(vL Node.c a1.fNodes), (vL Val.c a1.fRoots)])), (some (.row 57 2 (List.map Node.c []))), (some (.row 59 2 (List.map Val.c []))), (some (.row 3 1 (List.map cI []))), (some (.box 80 [(.own 1 0), (.own 2 0), (.own 3 0), (vI 0)])), (some (.row 3 1 (List.map cI r154.1))), (some (.row 3 1 (List.map cI r154.2))), none, (some (.box 57 [(vS x127.fClass), (vL Val.c x127.fVals)]))] (one_callH (caps := []) (q_f103_b g155)) ?_
             refine bnd h fun u156 g156 h => ?_
             refine s_ln (fun b => ⟨(mkd .any 141 0 [(1, (.ptr 0 0)), (2, (.ptr 4 0)), (3, (.own 5 b)), (5, (.own 6 (List.length x145))), (7, (vI x113)), (8, (.ptr 8 0)), (9, (vI x143)), (58, (vI x143)), (59, (.ptr 8 1)), (60, (vL Val.c x127.fVals)), (61, (vI (len x127.fVals))), (62, (vB true)), (65, (.own 6 (List.length x145))), (66, (.own 5 b)), (67, (.ptr 8 1)), (68, (vL Val.c x127.fVals)), (69, (vI x143)), (70, (.iptr [(vI x152.fKind), (vI x152.fN)])), (71, (.agg [(vI x152.fKind), (vI x152.fN)])), (72, (.own 6 (List.length r154.2)))]), [(some (.box 26 [(vL Node.c a1.fNodes), (vL Val.c a1.fRoots)])), (some (.row 57 2 (List.map Node.c []))), (some (.row 59 2 (List.map Val.c []))), (some (.row 3 1 (List.map cI []))), (some (.box 80 [(.own 1 0), (.own 2 0), (.own 3 0), (vI 0)])), (some (.row 3 1 (List.map cI r154.1))), (some (.row 3 1 (List.map cI r154.2))), none, (some (.box 57 [(vS x127.fClass), (vL Val.c x127.fVals)]))]⟩) (show List.length x144 = List.length r154.1 from sameLen_eq g156) ?_
             refine o_r1 [(5, (.own 6 (List.length r154.2)))] ?_
             refine o_end (k150 _ ?_)
             refine c_ops ?_
             refine o_r3 [(9, (vI (wr .i64 (x143 + 1)))), (63, (vI x143)), (64, (vI (wr .i64 (x143 + 1))))] ?_
             exact o_end (w131 _ _ _ _ (wkm [1, 2, 3, 5, 7, 8, 9] (whk (wh_keep (row_below Node.p _ _ _ _) (wh_keep (row_below Val.p _ _ _ _) (wh_keep (row_below cK_p _ _ _ _) (whk (wh_keep (row_below cK_p _ _ _ _) (wh_keep (row_below cK_p _ _ _ _) (wh_none (whk wh_nil)))))))))) h)
           · refine c_exit (hE130 _ ?_)
             exact w120 _ _ _ (wkm [1, 2, 3, 5, 7] (whk (wh_keep (row_below Node.p _ _ _ _) (wh_keep (row_below Val.p _ _ _ _) (wh_keep (row_below cK_p _ _ _ _) (whk (wh_keep (row_below cK_p _ _ _ _) (wh_keep (row_below cK_p _ _ _ _) wh_nil)))))))) h
       · refine c_exit (hE68 _ ?_)
         exact w66 _ _ _ (wkm [1, 2, 3, 5] (whk (wh_keep (row_below Node.p _ _ _ _) (wh_keep (row_below Val.p _ _ _ _) (wh_keep (row_below cK_p _ _ _ _) (whk (wh_keep (row_below cK_p _ _ _ _) (wh_keep (row_below cK_p _ _ _ _) wh_nil)))))))) h
   · intro N35 w35
     refine s_so fun N36 k36 w36 => ?_
     refine o_r1 [(6, (vI 0))] ?_
     refine o_end (k36 _ ?_)
     refine c_block fun E37 hE37 hO37 => ?_
     refine W3 (fun (x50 : Int) (x51 : (List Int)) (x52 : (List Int)) => ⟨(mkd .any 141 0 [(1, (.ptr 0 0)), (2, (.ptr 4 0)), (3, (.own 5 (List.length x51))), (5, (.own 6 (List.length x52))), (6, (vI x50))]), [(some (.box 26 [(vL Node.c a1.fNodes), (vL Val.c a1.fRoots)])), (some (.row 57 2 (List.map Node.c []))), (some (.row 59 2 (List.map Val.c []))), (some (.row 3 1 (List.map cI []))), (some (.box 80 [(.own 1 0), (.own 2 0), (.own 3 0), (vI 0)])), (some (.row 3 1 (List.map cI x51))), (some (.row 3 1 (List.map cI x52)))]⟩) (f67_l38 a1 n (f67_k35 n a1)) h (wkm [1, 2, 3, 5, 6] (whk (wh_keep (row_below Node.p _ _ _ _) (wh_keep (row_below Val.p _ _ _ _) (wh_keep (row_below cK_p _ _ _ _) (whk (wh_keep (row_below cK_p _ _ _ _) (wh_keep (row_below cK_p _ _ _ _) wh_nil)))))))) (by intros; rw [f67_l38.eq_1]) ?_
     intro m38 x50 x51 x52 h N38 w38
     rw [f67_l38.eq_2] at h
     refine s_seq fun N53 k53 w53 => ?_
     refine s_so fun N54 k54 w54 => ?_
     refine o_r3 [(29, (vI x50)), (30, (.ptr 0 1)), (31, (vL Val.c a1.fRoots))] ?_
     refine o_o (one_len (f := Val.c) (l := a1.fRoots)) ?_
     refine o_r1 [(33, (vB (decide (x50 < (len a1.fRoots)))))] ?_
     refine o_end (k54 _ ?_)
     refine i_c [33] h (fun h => ?_) (fun h => ?_)
     · refine c_skip (k53 _ ?_)
       refine s_seq fun N57 k57 w57 => ?_
       refine c_block fun E58 hE58 hO58 => ?_
       refine c_ops ?_
       refine o_r5 [(36, (.own 6 (List.length x52))), (37, (.own 5 (List.length x51))), (38, (.ptr 0 1)), (39, (vL Val.c a1.fRoots)), (40, (vI x50))] ?_
       refine bnd h fun x59 g60 h => ?_
       refine o_o (one_ia (f := Val.c) (ki := .i64) g60) ?_
       refine o_r1 [(42, (.agg [(vI x59.fKind), (vI x59.fN)]))] ?_
       refine bnd h fun r61 g62 h => ?_
       refine o_x [(some (.box 26 [(vL Node.c a1.fNodes), (vL Val.c a1.fRoots)])), (some (.row 57 2 (List.map Node.c []))), (some (.row 59 2 (List.map Val.c []))), (some (.row 3 1 (List.map cI []))), (some (.box 80 [(.own 1 0), (.own 2 0), (.own 3 0), (vI 0)])), (some (.row 3 1 (List.map cI r61.1))), (some (.row 3 1 (List.map cI r61.2)))] (one_callH (caps := []) (q_f103 g62)) ?_
       refine bnd h fun u63 g63 h => ?_
       refine s_ln (fun b => ⟨(mkd .any 141 0 [(1, (.ptr 0 0)), (2, (.ptr 4 0)), (3, (.own 5 b)), (5, (.own 6 (List.length x52))), (6, (vI x50)), (29, (vI x50)), (30, (.ptr 0 1)), (31, (vL Val.c a1.fRoots)), (32, (vI (len a1.fRoots))), (33, (vB true)), (36, (.own 6 (List.length x52))), (37, (.own 5 b)), (38, (.ptr 0 1)), (39, (vL Val.c a1.fRoots)), (40, (vI x50)), (41, (.iptr [(vI x59.fKind), (vI x59.fN)])), (42, (.agg [(vI x59.fKind), (vI x59.fN)])), (43, (.own 6 (List.length r61.2)))]), [(some (.box 26 [(vL Node.c a1.fNodes), (vL Val.c a1.fRoots)])), (some (.row 57 2 (List.map Node.c []))), (some (.row 59 2 (List.map Val.c []))), (some (.row 3 1 (List.map cI []))), (some (.box 80 [(.own 1 0), (.own 2 0), (.own 3 0), (vI 0)])), (some (.row 3 1 (List.map cI r61.1))), (some (.row 3 1 (List.map cI r61.2)))]⟩) (show List.length x51 = List.length r61.1 from sameLen_eq g63) ?_
       refine o_r1 [(5, (.own 6 (List.length r61.2)))] ?_
       refine o_end (k57 _ ?_)
       refine c_ops ?_
       refine o_r3 [(6, (vI (wr .i64 (x50 + 1)))), (34, (vI x50)), (35, (vI (wr .i64 (x50 + 1))))] ?_
       exact o_end (w38 _ _ _ _ (wkm [1, 2, 3, 5, 6] (whk (wh_keep (row_below Node.p _ _ _ _) (wh_keep (row_below Val.p _ _ _ _) (wh_keep (row_below cK_p _ _ _ _) (whk (wh_keep (row_below cK_p _ _ _ _) (wh_keep (row_below cK_p _ _ _ _) wh_nil)))))))) h)
     · refine c_exit (hE37 _ ?_)
       exact w35 _ _ _ (wkm [1, 2, 3, 5] (whk (wh_keep (row_below Node.p _ _ _ _) (wh_keep (row_below Val.p _ _ _ _) (wh_keep (row_below cK_p _ _ _ _) (whk (wh_keep (row_below cK_p _ _ _ _) (wh_keep (row_below cK_p _ _ _ _) wh_nil)))))))) h
 · intro N7 w7
   refine s_so fun N8 k8 w8 => ?_
   refine o_r1 [(4, (vI 0))] ?_
   refine o_end (k8 _ ?_)
   refine c_block fun E9 hE9 hO9 => ?_
   refine W2 (fun (x21 : Int) (x22 : (List Int)) => ⟨(mkd .any 141 0 [(1, (.ptr 0 0)), (2, (.ptr 4 0)), (3, (.own 5 (List.length x22))), (4, (vI x21))]), [(some (.box 26 [(vL Node.c a1.fNodes), (vL Val.c a1.fRoots)])), (some (.row 57 2 (List.map Node.c []))), (some (.row 59 2 (List.map Val.c []))), (some (.row 3 1 (List.map cI []))), (some (.box 80 [(.own 1 0), (.own 2 0), (.own 3 0), (vI 0)])), (some (.row 3 1 (List.map cI x22)))]⟩) (f67_l10 (f67_k7 n a1)) h (wkm [1, 2, 3, 4] (whk (wh_keep (row_below Node.p _ _ _ _) (wh_keep (row_below Val.p _ _ _ _) (wh_keep (row_below cK_p _ _ _ _) (whk (wh_keep (row_below cK_p _ _ _ _) wh_nil))))))) (by intros; rw [f67_l10.eq_1]) ?_
   intro m10 x21 x22 h N10 w10
   rw [f67_l10.eq_2] at h
   refine s_seq fun N23 k23 w23 => ?_
   refine s_so fun N24 k24 w24 => ?_
   refine o_r2 [(20, (vI x21)), (21, (.own 5 (List.length x22)))] ?_
   refine o_o (one_lenO (f := cI) (l := x22) (o := 5) (t := 3) (sz := 1)) ?_
   refine o_r1 [(23, (vB (decide (x21 < (len x22)))))] ?_
   refine o_end (k24 _ ?_)
   refine i_c [23] h (fun h => ?_) (fun h => ?_)
   · refine c_skip (k23 _ ?_)
     refine s_seq fun N27 k27 w27 => ?_
     refine c_block fun E28 hE28 hO28 => ?_
     refine c_ops ?_
     refine o_r2 [(26, (.own 5 (List.length x22))), (27, (vI x21))] ?_
     refine bnd h fun x29 g30 h => ?_
     refine o_o (one_iaO (f := cI) (ki := .i64) (t := 3) (o := 5) g30) ?_
     refine bnd h fun x31 g32 h => ?_
     refine o_x [(some (.box 26 [(vL Node.c a1.fNodes), (vL Val.c a1.fRoots)])), (some (.row 57 2 (List.map Node.c []))), (some (.row 59 2 (List.map Val.c []))), (some (.row 3 1 (List.map cI []))), (some (.box 80 [(.own 1 0), (.own 2 0), (.own 3 0), (vI 0)])), (some (.row 3 1 (List.map cI (setI x22 x21 (-1)))))] (one_stE (f := cI) (k := 0) (t := 3) (sz := 1) (o := 5) (z := (-1)) (ds := [(vI (-1))]) (es := [(vI (-1))]) g32) ?_
     refine s_ln (fun b => ⟨(mkd .any 141 0 [(1, (.ptr 0 0)), (2, (.ptr 4 0)), (3, (.own 5 b)), (4, (vI x21)), (20, (vI x21)), (21, (.own 5 b)), (22, (vI (len x22))), (23, (vB true)), (26, (.own 5 b)), (27, (vI x21)), (28, (.eptr 5 b (Int.toNat x21) 0))]), [(some (.box 26 [(vL Node.c a1.fNodes), (vL Val.c a1.fRoots)])), (some (.row 57 2 (List.map Node.c []))), (some (.row 59 2 (List.map Val.c []))), (some (.row 3 1 (List.map cI []))), (some (.box 80 [(.own 1 0), (.own 2 0), (.own 3 0), (vI 0)])), (some (.row 3 1 (List.map cI (setI x22 x21 (-1)))))]⟩) (show List.length x22 = List.length (setI x22 x21 (-1)) from setI_len) ?_
     refine o_end (k27 _ ?_)
     refine c_ops ?_
     refine o_r3 [(4, (vI (wr .i64 (x21 + 1)))), (24, (vI x21)), (25, (vI (wr .i64 (x21 + 1))))] ?_
     exact o_end (w10 _ _ _ (wkm [1, 2, 3, 4] (whk (wh_keep (row_below Node.p _ _ _ _) (wh_keep (row_below Val.p _ _ _ _) (wh_keep (row_below cK_p _ _ _ _) (whk (wh_keep (row_below cK_p _ _ _ _) wh_nil))))))) h)
   · refine c_exit (hE9 _ ?_)
     exact w7 _ _ (wkm [1, 2, 3] (whk (wh_keep (row_below Node.p _ _ _ _) (wh_keep (row_below Val.p _ _ _ _) (wh_keep (row_below cK_p _ _ _ _) (whk (wh_keep (row_below cK_p _ _ _ _) wh_nil))))))) h
theorem ic68 : fnIC Try.prog H0 68 = some ([.tmp 4], 29, (.seq (.ops [zO 4 (.nil 0 5 1)]) (.seq (.ops [zM 6 1, zO 7 (.sc (.bin .mul 3) [(.c (.int .i64 2)), (.t 6)]), zM 5 7]) (.seq (.seq (.ops [zM 8 1, zO 9 (.sc (.bin .lss 3) [(.t 8), (.c (.int .i64 0))])]) (.cond (.t 9)
  (.ops [zM 10 1, zO 11 (.sc (.bin .mul 3) [(.c (.int .i64 (-2))), (.t 10)]), zO 12 (.sc (.bin .sub 3) [(.t 11), (.c (.int .i64 1))]), zM 5 12])
  .skip)) (.seq (.block 0 (.loop (.seq (.seq (.ops [zM 13 5, zO 14 (.sc (.bin .geq 3) [(.t 13), (.c (.int .i64 128))])]) (.cond (.t 14)
  .skip
  (.exit 0))) (.block 1 (.seq (.ops [zM 15 0, zM 16 5, zO 17 (.sc (.bin .rem 3) [(.t 16), (.c (.int .i64 128))]), zO 18 (.sc (.bin .add 3) [(.c (.int .i64 128)), (.t 17)]), zO 19 (.sc (.conv 3 5) [(.t 18)]), zO 20 (.isl 1 [(.t 19)]), zO 21 (.app 0 5 1 1 (.t 15) (.t 20)), zM 0 21]) (.ops [zM 22 5, zO 23 (.sc (.bin .quo 3) [(.t 22), (.c (.int .i64 128))]), zM 5 23])))))) (.seq (.ops [zM 24 0, zM 25 5, zO 26 (.sc (.conv 3 5) [(.t 25)]), zO 27 (.isl 1 [(.t 26)]), zO 28 (.app 0 5 1 1 (.t 24) (.t 27)), zM 4 28]) .ret)))))) := by kernel_rfl
def f68_k17 (x36 : Int) (x37 : (List Int)) : Option (List Int) := ((app2 x37 [(wr .u8 x36)]).bind fun l39 => some l39)
def f68_l19 (k17k : Int → (List Int) → Option (List Int)) : Nat → Int → (List Int) → Option (List Int)
  | 0, _, _ => none
  | m19 + 1, x27, x28 => (bif (decide (x27 ≥ 128)) then ((app2 x28 [(wr .u8 (wr .i64 (128 + (Int.tmod x27 128))))]).bind fun l34 => (f68_l19 (k17k) m19 (wr .i64 (Int.tdiv x27 128)) l34)) else (k17k x27 x28))
def f68_k13 (n : Nat) (a4 : (List Int)) (x16 : Int) : Option (List Int) := (f68_l19 (f68_k17) n x16 a4)
def f68 (n : Nat) (a1 : (List Int)) (a2 : (List Node)) (a3 : (List Val)) (a4 : (List Int)) (a5 : (List Node)) (a6 : (List Val)) (a7 : Int) (a8 : (List Node)) (a9 : (List Val)) (a10 : Int) : Option (List Int) := (bif (decide (a10 < 0)) then (f68_k13 n a4 (wr .i64 ((wr .i64 ((-2) * a10)) - 1))) else (f68_k13 n a4 (wr .i64 (2 * a10))))
def f68_r (a1 : (List Int)) (a2 : (List Node)) (a3 : (List Val)) (a4 : (List Int)) (a5 : (List Node)) (a6 : (List Val)) (a7 : Int) (a8 : (List Node)) (a9 : (List Val)) (a10 : Int) (r : (List Int)) : AV := (.own 6 (List.length r))
def f68_h (a1 : (List Int)) (a2 : (List Node)) (a3 : (List Val)) (a4 : (List Int)) (a5 : (List Node)) (a6 : (List Val)) (a7 : Int) (a8 : (List Node)) (a9 : (List Val)) (a10 : Int) (r : (List Int)) : Heap := [(some (.box 26 [(vL Node.c a5), (vL Val.c a6)])), (some (.row 5 1 (List.map (cK .u8) a1))), (some (.box 38 [(.own 1 (List.length a1)), (vI a7)])), (some (.row 57 2 (List.map Node.c a2))), (some (.row 59 2 (List.map Val.c a3))), (some (.box 26 [(vL Node.c a8), (vL Val.c a9)])), (some (.row 5 1 (List.map (cK .u8) r)))]
theorem q_f68 {n : Nat} {a1 : (List Int)} {a2 : (List Node)} {a3 : (List Val)} {a4 : (List Int)} {a5 : (List Node)} {a6 : (List Val)} {a7 : Int} {a8 : (List Node)} {a9 : (List Val)} {a10 : Int} {r : (List Int)} (h : f68 n a1 a2 a3 a4 a5 a6 a7 a8 a9 a10 = some r) : HSpec Try.prog 68 [(.own 6 (List.length a4)), (vI a10)] [(some (.box 26 [(vL Node.c a5), (vL Val.c a6)])), (some (.row 5 1 (List.map (cK .u8) a1))), (some (.box 38 [(.own 1 (List.length a1)), (vI a7)])), (some (.row 57 2 (List.map Node.c a2))), (some (.row 59 2 (List.map Val.c a3))), (some (.box 26 [(vL Node.c a8), (vL Val.c a9)])), (some (.row 5 1 (List.map (cK .u8) a4)))] (f68_r a1 a2 a3 a4 a5 a6 a7 a8 a9 a10 r) (f68_h a1 a2 a3 a4 a5 a6 a7 a8 a9 a10 r) := by
 rw [f68.eq_1] at h
 refine heap_of hmix ic68 ?_
 refine go_to (mkd (.val undef) 29 0 [(0, (.own 6 (List.length a4))), (1, (vI a10))]) ?_
 refine s_so fun N11 k11 w11 => ?_
 refine o_h1 [(4, (.own 7 0))] [(some (.box 26 [(vL Node.c a5), (vL Val.c a6)])), (some (.row 5 1 (List.map (cK .u8) a1))), (some (.box 38 [(.own 1 (List.length a1)), (vI a7)])), (some (.row 57 2 (List.map Node.c a2))), (some (.row 59 2 (List.map Val.c a3))), (some (.box 26 [(vL Node.c a8), (vL Val.c a9)])), (some (.row 5 1 (List.map (cK .u8) a4))), (some (.row 5 1 (List.map (cK .u8) [])))] ?_
 refine o_end (k11 _ ?_)
 refine s_so fun N12 k12 w12 => ?_
 refine o_r3 [(5, (vI (wr .i64 (2 * a10)))), (6, (vI a10)), (7, (vI (wr .i64 (2 * a10))))] ?_
 refine o_end (k12 _ ?_)
 refine J1 (r := r) (fun (x16 : Int) => ⟨(mkd .any 29 0 [(0, (.own 6 (List.length a4))), (5, (vI x16))]), [(some (.box 26 [(vL Node.c a5), (vL Val.c a6)])), (some (.row 5 1 (List.map (cK .u8) a1))), (some (.box 38 [(.own 1 (List.length a1)), (vI a7)])), (some (.row 57 2 (List.map Node.c a2))), (some (.row 59 2 (List.map Val.c a3))), (some (.box 26 [(vL Node.c a8), (vL Val.c a9)])), (some (.row 5 1 (List.map (cK .u8) a4)))]⟩) (f68_k13 n a4) ?_ ?_
 · intro x16 h
   rw [f68_k13.eq_1] at h
   refine J2 (r := r) (fun (x36 : Int) (x37 : (List Int)) => ⟨(mkd .any 29 0 [(0, (.own 6 (List.length x37))), (5, (vI x36))]), [(some (.box 26 [(vL Node.c a5), (vL Val.c a6)])), (some (.row 5 1 (List.map (cK .u8) a1))), (some (.box 38 [(.own 1 (List.length a1)), (vI a7)])), (some (.row 57 2 (List.map Node.c a2))), (some (.row 59 2 (List.map Val.c a3))), (some (.box 26 [(vL Node.c a8), (vL Val.c a9)])), (some (.row 5 1 (List.map (cK .u8) x37)))]⟩) (f68_k17) ?_ ?_
   · intro x36 x37 h
     rw [f68_k17.eq_1] at h
     refine s_so fun N38 k38 w38 => ?_
     refine o_r4 [(24, (.own 6 (List.length x37))), (25, (vI x36)), (26, (vKi .u8 (wr .u8 x36))), (27, (vL (cK .u8) [(wr .u8 x36)]))] ?_
     refine bnd h fun l39 g40 h => ?_
     refine o_x [(some (.box 26 [(vL Node.c a5), (vL Val.c a6)])), (some (.row 5 1 (List.map (cK .u8) a1))), (some (.box 38 [(.own 1 (List.length a1)), (vI a7)])), (some (.row 57 2 (List.map Node.c a2))), (some (.row 59 2 (List.map Val.c a3))), (some (.box 26 [(vL Node.c a8), (vL Val.c a9)])), (some (.row 5 1 (List.map (cK .u8) l39)))] (one_app (f := (cK .u8)) (o := 6) g40 (fun _ => ⟨rfl, rfl⟩)) ?_
     refine o_r1 [(4, (.own 6 (List.length l39)))] ?_
     refine o_end (k38 _ ?_)
     exact c_ret (retsH [(.own 6 (List.length l39))] [(.own 6 (List.length l39))] h (wkm [0] (whk (wh_keep (row_below cK_p _ _ _ _) (whk (wh_keep (row_below Node.p _ _ _ _) (wh_keep (row_below Val.p _ _ _ _) (whk (wh_keep (row_below cK_p _ _ _ _) wh_nil)))))))))
   · intro N17 w17
     refine c_block fun E18 hE18 hO18 => ?_
     refine W2 (fun (x27 : Int) (x28 : (List Int)) => ⟨(mkd .any 29 0 [(0, (.own 6 (List.length x28))), (5, (vI x27))]), [(some (.box 26 [(vL Node.c a5), (vL Val.c a6)])), (some (.row 5 1 (List.map (cK .u8) a1))), (some (.box 38 [(.own 1 (List.length a1)), (vI a7)])), (some (.row 57 2 (List.map Node.c a2))), (some (.row 59 2 (List.map Val.c a3))), (some (.box 26 [(vL Node.c a8), (vL Val.c a9)])), (some (.row 5 1 (List.map (cK .u8) x28)))]⟩) (f68_l19 (f68_k17)) h (wkm [0, 5] (whk (wh_keep (row_below cK_p _ _ _ _) (whk (wh_keep (row_below Node.p _ _ _ _) (wh_keep (row_below Val.p _ _ _ _) (whk (wh_keep (row_below cK_p _ _ _ _) wh_nil)))))))) (by intros; rw [f68_l19.eq_1]) ?_
     intro m19 x27 x28 h N19 w19
     rw [f68_l19.eq_2] at h
     refine s_seq fun N29 k29 w29 => ?_
     refine s_so fun N30 k30 w30 => ?_
     refine o_r2 [(13, (vI x27)), (14, (vB (decide (x27 ≥ 128))))] ?_
     refine o_end (k30 _ ?_)
     refine i_c [14] h (fun h => ?_) (fun h => ?_)
     · refine c_skip (k29 _ ?_)
       refine c_block fun E32 hE32 hO32 => ?_
       refine s_so fun N33 k33 w33 => ?_
       refine o_r6 [(15, (.own 6 (List.length x28))), (16, (vI x27)), (17, (vI (Int.tmod x27 128))), (18, (vI (wr .i64 (128 + (Int.tmod x27 128))))), (19, (vKi .u8 (wr .u8 (wr .i64 (128 + (Int.tmod x27 128)))))), (20, (vL (cK .u8) [(wr .u8 (wr .i64 (128 + (Int.tmod x27 128))))]))] ?_
       refine bnd h fun l34 g35 h => ?_
       refine o_x [(some (.box 26 [(vL Node.c a5), (vL Val.c a6)])), (some (.row 5 1 (List.map (cK .u8) a1))), (some (.box 38 [(.own 1 (List.length a1)), (vI a7)])), (some (.row 57 2 (List.map Node.c a2))), (some (.row 59 2 (List.map Val.c a3))), (some (.box 26 [(vL Node.c a8), (vL Val.c a9)])), (some (.row 5 1 (List.map (cK .u8) l34)))] (one_app (f := (cK .u8)) (o := 6) g35 (fun _ => ⟨rfl, rfl⟩)) ?_
       refine o_r1 [(0, (.own 6 (List.length l34)))] ?_
       refine o_end (k33 _ ?_)
       refine c_ops ?_
       refine o_r3 [(5, (vI (wr .i64 (Int.tdiv x27 128)))), (22, (vI x27)), (23, (vI (wr .i64 (Int.tdiv x27 128))))] ?_
       exact o_end (w19 _ _ _ (wkm [0, 5] (whk (wh_keep (row_below cK_p _ _ _ _) (whk (wh_keep (row_below Node.p _ _ _ _) (wh_keep (row_below Val.p _ _ _ _) (whk (wh_keep (row_below cK_p _ _ _ _) wh_nil)))))))) h)
     · refine c_exit (hE18 _ ?_)
       exact w17 _ _ _ (wkm [0, 5] (whk (wh_keep (row_below cK_p _ _ _ _) (whk (wh_keep (row_below Node.p _ _ _ _) (wh_keep (row_below Val.p _ _ _ _) (whk (wh_keep (row_below cK_p _ _ _ _) wh_nil)))))))) h
 · intro N13 w13
   refine s_so fun N14 k14 w14 => ?_
   refine o_r2 [(8, (vI a10)), (9, (vB (decide (a10 < 0))))] ?_
   refine o_end (k14 _ ?_)
   refine i_c [9] h (fun h => ?_) (fun h => ?_)
   · refine c_ops ?_
     refine o_r4 [(5, (vI (wr .i64 ((wr .i64 ((-2) * a10)) - 1)))), (10, (vI a10)), (11, (vI (wr .i64 ((-2) * a10)))), (12, (vI (wr .i64 ((wr .i64 ((-2) * a10)) - 1))))] ?_
     exact o_end (w13 _ _ (wkm [0, 5] (whk (wh_keep (row_below cK_p _ _ _ _) (whk (wh_keep (row_below Node.p _ _ _ _) (wh_keep (row_below Val.p _ _ _ _) (whk (wh_keep (row_below cK_p _ _ _ _) wh_nil)))))))) h)
   · exact c_skip (w13 _ _ (wkm [0, 5] (whk (wh_keep (row_below cK_p _ _ _ _) (whk (wh_keep (row_below Node.p _ _ _ _) (wh_keep (row_below Val.p _ _ _ _) (whk (wh_keep (row_below cK_p _ _ _ _) wh_nil)))))))) h)
def f68_b_k13 (x32 : Int) (x33 : (List Int)) : Option (List Int) := ((app2 x33 [(wr .u8 x32)]).bind fun l35 => some l35)
def f68_b_l15 (k13k : Int → (List Int) → Option (List Int)) : Nat → Int → (List Int) → Option (List Int)
  | 0, _, _ => none
  | m15 + 1, x23, x24 => (bif (decide (x23 ≥ 128)) then ((app2 x24 [(wr .u8 (wr .i64 (128 + (Int.tmod x23 128))))]).bind fun l30 => (f68_b_l15 (k13k) m15 (wr .i64 (Int.tdiv x23 128)) l30)) else (k13k x23 x24))
def f68_b_k9 (n : Nat) (a2 : (List Int)) (x12 : Int) : Option (List Int) := (f68_b_l15 (f68_b_k13) n x12 a2)
def f68_b (n : Nat) (a1 : (List Int)) (a2 : (List Int)) (a3 : Int) (a4 : (List Node)) (a5 : (List Val)) (a6 : Int) : Option (List Int) := (bif (decide (a6 < 0)) then (f68_b_k9 n a2 (wr .i64 ((wr .i64 ((-2) * a6)) - 1))) else (f68_b_k9 n a2 (wr .i64 (2 * a6))))
def f68_b_r (a1 : (List Int)) (a2 : (List Int)) (a3 : Int) (a4 : (List Node)) (a5 : (List Val)) (a6 : Int) (r : (List Int)) : AV := (.own 6 (List.length r))
def f68_b_h (a1 : (List Int)) (a2 : (List Int)) (a3 : Int) (a4 : (List Node)) (a5 : (List Val)) (a6 : Int) (r : (List Int)) : Heap := [none, (some (.row 5 1 (List.map (cK .u8) a1))), (some (.box 38 [(.own 1 (List.length a1)), (vI a3)])), none, none, (some (.box 26 [(vL Node.c a4), (vL Val.c a5)])), (some (.row 5 1 (List.map (cK .u8) r)))]
theorem q_f68_b {n : Nat} {a1 : (List Int)} {a2 : (List Int)} {a3 : Int} {a4 : (List Node)} {a5 : (List Val)} {a6 : Int} {r : (List Int)} (h : f68_b n a1 a2 a3 a4 a5 a6 = some r) : HSpec Try.prog 68 [(.own 6 (List.length a2)), (vI a6)] [none, (some (.row 5 1 (List.map (cK .u8) a1))), (some (.box 38 [(.own 1 (List.length a1)), (vI a3)])), none, none, (some (.box 26 [(vL Node.c a4), (vL Val.c a5)])), (some (.row 5 1 (List.map (cK .u8) a2)))] (f68_b_r a1 a2 a3 a4 a5 a6 r) (f68_b_h a1 a2 a3 a4 a5 a6 r) := by
 rw [f68_b.eq_1] at h
 refine heap_of hmix ic68 ?_
 refine go_to (mkd (.val undef) 29 0 [(0, (.own 6 (List.length a2))), (1, (vI a6))]) ?_
 refine s_so fun N7 k7 w7 => ?_
 refine o_h1 [(4, (.own 7 0))] [none, (some (.row 5 1 (List.map (cK .u8) a1))), (some (.box 38 [(.own 1 (List.length a1)), (vI a3)])), none, none, (some (.box 26 [(vL Node.c a4), (vL Val.c a5)])), (some (.row 5 1 (List.map (cK .u8) a2))), (some (.row 5 1 (List.map (cK .u8) [])))] ?_
 refine o_end (k7 _ ?_)
 refine s_so fun N8 k8 w8 => ?_
 refine o_r3 [(5, (vI (wr .i64 (2 * a6)))), (6, (vI a6)), (7, (vI (wr .i64 (2 * a6))))] ?_
 refine o_end (k8 _ ?_)
 refine J1 (r := r) (fun (x12 : Int) => ⟨(mkd .any 29 0 [(0, (.own 6 (List.length a2))), (5, (vI x12))]), [none, (some (.row 5 1 (List.map (cK .u8) a1))), (some (.box 38 [(.own 1 (List.length a1)), (vI a3)])), none, none, (some (.box 26 [(vL Node.c a4), (vL Val.c a5)])), (some (.row 5 1 (List.map (cK .u8) a2)))]⟩) (f68_b_k9 n a2) ?_ ?_
 · intro x12 h
   rw [f68_b_k9.eq_1] at h
   refine J2 (r := r) (fun (x32 : Int) (x33 : (List Int)) => ⟨(mkd .any 29 0 [(0, (.own 6 (List.length x33))), (5, (vI x32))]), [none, (some (.row 5 1 (List.map (cK .u8) a1))), (some (.box 38 [(.own 1 (List.length a1)), (vI a3)])), none, none, (some (.box 26 [(vL Node.c a4), (vL Val.c a5)])), (some (.row 5 1 (List.map (cK .u8) x33)))]⟩) (f68_b_k13) ?_ ?_
   · intro x32 x33 h
     rw [f68_b_k13.eq_1] at h
     refine s_so fun N34 k34 w34 => ?_
     refine o_r4 [(24, (.own 6 (List.length x33))), (25, (vI x32)), (26, (vKi .u8 (wr .u8 x32))), (27, (vL (cK .u8) [(wr .u8 x32)]))] ?_
     refine bnd h fun l35 g36 h => ?_
     refine o_x [none, (some (.row 5 1 (List.map (cK .u8) a1))), (some (.box 38 [(.own 1 (List.length a1)), (vI a3)])), none, none, (some (.box 26 [(vL Node.c a4), (vL Val.c a5)])), (some (.row 5 1 (List.map (cK .u8) l35)))] (one_app (f := (cK .u8)) (o := 6) g36 (fun _ => ⟨rfl, rfl⟩)) ?_
     refine o_r1 [(4, (.own 6 (List.length l35)))] ?_
     refine o_end (k34 _ ?_)
     exact c_ret (retsH [(.own 6 (List.length l35))] [(.own 6 (List.length l35))] h (wkm [0] (wh_none (wh_keep (row_below cK_p _ _ _ _) (whk (wh_none (wh_none (whk (wh_keep (row_below cK_p _ _ _ _) wh_nil)))))))))
   · intro N13 w13
     refine c_block fun E14 hE14 hO14 => ?_
     refine W2 (fun (x23 : Int) (x24 : (List Int)) => ⟨(mkd .any 29 0 [(0, (.own 6 (List.length x24))), (5, (vI x23))]), [none, (some (.row 5 1 (List.map (cK .u8) a1))), (some (.box 38 [(.own 1 (List.length a1)), (vI a3)])), none, none, (some (.box 26 [(vL Node.c a4), (vL Val.c a5)])), (some (.row 5 1 (List.map (cK .u8) x24)))]⟩) (f68_b_l15 (f68_b_k13)) h (wkm [0, 5] (wh_none (wh_keep (row_below cK_p _ _ _ _) (whk (wh_none (wh_none (whk (wh_keep (row_below cK_p _ _ _ _) wh_nil)))))))) (by intros; rw [f68_b_l15.eq_1]) ?_
     intro m15 x23 x24 h N15 w15
     rw [f68_b_l15.eq_2] at h
     refine s_seq fun N25 k25 w25 => ?_
     refine s_so fun N26 k26 w26 => ?_
     refine o_r2 [(13, (vI x23)), (14, (vB (decide (x23 ≥ 128))))] ?_
     refine o_end (k26 _ ?_)
     refine i_c [14] h (fun h => ?_) (fun h => ?_)
     · refine c_skip (k25 _ ?_)
       refine c_block fun E28 hE28 hO28 => ?_
       refine s_so fun N29 k29 w29 => ?_
       refine o_r6 [(15, (.own 6 (List.length x24))), (16, (vI x23)), (17, (vI (Int.tmod x23 128))), (18, (vI (wr .i64 (128 + (Int.tmod x23 128))))), (19, (vKi .u8 (wr .u8 (wr .i64 (128 + (Int.tmod x23 128)))))), (20, (vL (cK .u8) [(wr .u8 (wr .i64 (128 + (Int.tmod x23 128))))]))] ?_
       refine bnd h fun l30 g31 h => ?_
       refine o_x [none, (some (.row 5 1 (List.map (cK .u8) a1))), (some (.box 38 [(.own 1 (List.length a1)), (vI a3)])), none, none, (some (.box 26 [(vL Node.c a4), (vL Val.c a5)])), (some (.row 5 1 (List.map (cK .u8) l30)))] (one_app (f := (cK .u8)) (o := 6) g31 (fun _ => ⟨rfl, rfl⟩)) ?_
       refine o_r1 [(0, (.own 6 (List.length l30)))] ?_
       refine o_end (k29 _ ?_)
       refine c_ops ?_
       refine o_r3 [(5, (vI (wr .i64 (Int.tdiv x23 128)))), (22, (vI x23)), (23, (vI (wr .i64 (Int.tdiv x23 128))))] ?_
       exact o_end (w15 _ _ _ (wkm [0, 5] (wh_none (wh_keep (row_below cK_p _ _ _ _) (whk (wh_none (wh_none (whk (wh_keep (row_below cK_p _ _ _ _) wh_nil)))))))) h)
     · refine c_exit (hE14 _ ?_)
       exact w13 _ _ _ (wkm [0, 5] (wh_none (wh_keep (row_below cK_p _ _ _ _) (whk (wh_none (wh_none (whk (wh_keep (row_below cK_p _ _ _ _) wh_nil)))))))) h
 · intro N9 w9
   refine s_so fun N10 k10 w10 => ?_
   refine o_r2 [(8, (vI a6)), (9, (vB (decide (a6 < 0))))] ?_
   refine o_end (k10 _ ?_)
   refine i_c [9] h (fun h => ?_) (fun h => ?_)
   · refine c_ops ?_
     refine o_r4 [(5, (vI (wr .i64 ((wr .i64 ((-2) * a6)) - 1)))), (10, (vI a6)), (11, (vI (wr .i64 ((-2) * a6)))), (12, (vI (wr .i64 ((wr .i64 ((-2) * a6)) - 1))))] ?_
     exact o_end (w9 _ _ (wkm [0, 5] (wh_none (wh_keep (row_below cK_p _ _ _ _) (whk (wh_none (wh_none (whk (wh_keep (row_below cK_p _ _ _ _) wh_nil)))))))) h)
   · exact c_skip (w9 _ _ (wkm [0, 5] (wh_none (wh_keep (row_below cK_p _ _ _ _) (whk (wh_none (wh_none (whk (wh_keep (row_below cK_p _ _ _ _) wh_nil)))))))) h)
def f68_c_k16 (x35 : Int) (x36 : (List Int)) : Option (List Int) := ((app2 x36 [(wr .u8 x35)]).bind fun l38 => some l38)
def f68_c_l18 (k16k : Int → (List Int) → Option (List Int)) : Nat → Int → (List Int) → Option (List Int)
  | 0, _, _ => none
  | m18 + 1, x26, x27 => (bif (decide (x26 ≥ 128)) then ((app2 x27 [(wr .u8 (wr .i64 (128 + (Int.tmod x26 128))))]).bind fun l33 => (f68_c_l18 (k16k) m18 (wr .i64 (Int.tdiv x26 128)) l33)) else (k16k x26 x27))
def f68_c_k12 (n : Nat) (a2 : (List Int)) (x15 : Int) : Option (List Int) := (f68_c_l18 (f68_c_k16) n x15 a2)
def f68_c (n : Nat) (a1 : (List Int)) (a2 : (List Int)) (a3 : (List Int)) (a4 : Int) (a5 : (List Node)) (a6 : (List Val)) (a7 : Int) (a8 : Int) (a9 : Int) : Option (List Int) := (bif (decide (a9 < 0)) then (f68_c_k12 n a2 (wr .i64 ((wr .i64 ((-2) * a9)) - 1))) else (f68_c_k12 n a2 (wr .i64 (2 * a9))))
def f68_c_r (a1 : (List Int)) (a2 : (List Int)) (a3 : (List Int)) (a4 : Int) (a5 : (List Node)) (a6 : (List Val)) (a7 : Int) (a8 : Int) (a9 : Int) (r : (List Int)) : AV := (.own 6 (List.length r))
def f68_c_h (a1 : (List Int)) (a2 : (List Int)) (a3 : (List Int)) (a4 : Int) (a5 : (List Node)) (a6 : (List Val)) (a7 : Int) (a8 : Int) (a9 : Int) (r : (List Int)) : Heap := [none, (some (.row 5 1 (List.map (cK .u8) a1))), (some (.box 38 [(.own 1 (List.length a1)), (vI a4)])), none, none, (some (.box 26 [(vL Node.c a5), (vL Val.c a6)])), (some (.row 5 1 (List.map (cK .u8) r))), (some (.box 59 [(vI a7), (vI a8)])), (some (.row 5 1 (List.map (cK .u8) a3)))]
theorem q_f68_c {n : Nat} {a1 : (List Int)} {a2 : (List Int)} {a3 : (List Int)} {a4 : Int} {a5 : (List Node)} {a6 : (List Val)} {a7 : Int} {a8 : Int} {a9 : Int} {r : (List Int)} (h : f68_c n a1 a2 a3 a4 a5 a6 a7 a8 a9 = some r) : HSpec Try.prog 68 [(.own 6 (List.length a2)), (vI a9)] [none, (some (.row 5 1 (List.map (cK .u8) a1))), (some (.box 38 [(.own 1 (List.length a1)), (vI a4)])), none, none, (some (.box 26 [(vL Node.c a5), (vL Val.c a6)])), (some (.row 5 1 (List.map (cK .u8) a2))), (some (.box 59 [(vI a7), (vI a8)])), (some (.row 5 1 (List.map (cK .u8) a3)))] (f68_c_r a1 a2 a3 a4 a5 a6 a7 a8 a9 r) (f68_c_h a1 a2 a3 a4 a5 a6 a7 a8 a9 r) := by
 rw [f68_c.eq_1] at h
 refine heap_of hmix ic68 ?_
 refine go_to (mkd (.val undef) 29 0 [(0, (.own 6 (List.length a2))), (1, (vI a9))]) ?_
 refine s_so fun N10 k10 w10 => ?_
 refine o_h1 [(4, (.own 9 0))] [none, (some (.row 5 1 (List.map (cK .u8) a1))), (some (.box 38 [(.own 1 (List.length a1)), (vI a4)])), none, none, (some (.box 26 [(vL Node.c a5), (vL Val.c a6)])), (some (.row 5 1 (List.map (cK .u8) a2))), (some (.box 59 [(vI a7), (vI a8)])), (some (.row 5 1 (List.map (cK .u8) a3))), (some (.row 5 1 (List.map (cK .u8) [])))] ?_
 refine o_end (k10 _ ?_)
 refine s_so fun N11 k11 w11 => ?_
 refine o_r3 [(5, (vI (wr .i64 (2 * a9)))), (6, (vI a9)), (7, (vI (wr .i64 (2 * a9))))] ?_
 refine o_end (k11 _ ?_)
 refine J1 (r := r) (fun (x15 : Int) => ⟨(mkd .any 29 0 [(0, (.own 6 (List.length a2))), (5, (vI x15))]), [none, (some (.row 5 1 (List.map (cK .u8) a1))), (some (.box 38 [(.own 1 (List.length a1)), (vI a4)])), none, none, (some (.box 26 [(vL Node.c a5), (vL Val.c a6)])), (some (.row 5 1 (List.map (cK .u8) a2))), (some (.box 59 [(vI a7), (vI a8)])), (some (.row 5 1 (List.map (cK .u8) a3)))]⟩) (f68_c_k12 n a2) ?_ ?_
 · intro x15 h
   rw [f68_c_k12.eq_1] at h
   refine J2 (r := r) (fun (x35 : Int) (x36 : (List Int)) => ⟨(mkd .any 29 0 [(0, (.own 6 (List.length x36))), (5, (vI x35))]), [none, (some (.row 5 1 (List.map (cK .u8) a1))), (some (.box 38 [(.own 1 (List.length a1)), (vI a4)])), none, none, (some (.box 26 [(vL Node.c a5), (vL Val.c a6)])), (some (.row 5 1 (List.map (cK .u8) x36))), (some (.box 59 [(vI a7), (vI a8)])), (some (.row 5 1 (List.map (cK .u8) a3)))]⟩) (f68_c_k16) ?_ ?_
   · intro x35 x36 h
     rw [f68_c_k16.eq_1] at h
     refine s_so fun N37 k37 w37 => ?_
     refine o_r4 [(24, (.own 6 (List.length x36))), (25, (vI x35)), (26, (vKi .u8 (wr .u8 x35))), (27, (vL (cK .u8) [(wr .u8 x35)]))] ?_
     refine bnd h fun l38 g39 h => ?_
     refine o_x [none, (some (.row 5 1 (List.map (cK .u8) a1))), (some (.box 38 [(.own 1 (List.length a1)), (vI a4)])), none, none, (some (.box 26 [(vL Node.c a5), (vL Val.c a6)])), (some (.row 5 1 (List.map (cK .u8) l38))), (some (.box 59 [(vI a7), (vI a8)])), (some (.row 5 1 (List.map (cK .u8) a3)))] (one_app (f := (cK .u8)) (o := 6) g39 (fun _ => ⟨rfl, rfl⟩)) ?_
     refine o_r1 [(4, (.own 6 (List.length l38)))] ?_
     refine o_end (k37 _ ?_)
     exact c_ret (retsH [(.own 6 (List.length l38))] [(.own 6 (List.length l38))] h (wkm [0] (wh_none (wh_keep (row_below cK_p _ _ _ _) (whk (wh_none (wh_none (whk (wh_keep (row_below cK_p _ _ _ _) (whk (wh_keep (row_below cK_p _ _ _ _) wh_nil)))))))))))
   · intro N16 w16
     refine c_block fun E17 hE17 hO17 => ?_
     refine W2 (fun (x26 : Int) (x27 : (List Int)) => ⟨(mkd .any 29 0 [(0, (.own 6 (List.length x27))), (5, (vI x26))]), [none, (some (.row 5 1 (List.map (cK .u8) a1))), (some (.box 38 [(.own 1 (List.length a1)), (vI a4)])), none, none, (some (.box 26 [(vL Node.c a5), (vL Val.c a6)])), (some (.row 5 1 (List.map (cK .u8) x27))), (some (.box 59 [(vI a7), (vI a8)])), (some (.row 5 1 (List.map (cK .u8) a3)))]⟩) (f68_c_l18 (f68_c_k16)) h (wkm [0, 5] (wh_none (wh_keep (row_below cK_p _ _ _ _) (whk (wh_none (wh_none (whk (wh_keep (row_below cK_p _ _ _ _) (whk (wh_keep (row_below cK_p _ _ _ _) wh_nil)))))))))) (by intros; rw [f68_c_l18.eq_1]) ?_
     intro m18 x26 x27 h N18 w18
     rw [f68_c_l18.eq_2] at h
     refine s_seq fun N28 k28 w28 => ?_
     refine s_so fun N29 k29 w29 => ?_
     refine o_r2 [(13, (vI x26)), (14, (vB (decide (x26 ≥ 128))))] ?_
     refine o_end (k29 _ ?_)
     refine i_c [14] h (fun h => ?_) (fun h => ?_)
     · refine c_skip (k28 _ ?_)
       refine c_block fun E31 hE31 hO31 => ?_
       refine s_so fun N32 k32 w32 => ?_
       refine o_r6 [(15, (.own 6 (List.length x27))), (16, (vI x26)), (17, (vI (Int.tmod x26 128))), (18, (vI (wr .i64 (128 + (Int.tmod x26 128))))), (19, (vKi .u8 (wr .u8 (wr .i64 (128 + (Int.tmod x26 128)))))), (20, (vL (cK .u8) [(wr .u8 (wr .i64 (128 + (Int.tmod x26 128))))]))] ?_
       refine bnd h fun l33 g34 h => ?_
       refine o_x [none, (some (.row 5 1 (List.map (cK .u8) a1))), (some (.box 38 [(.own 1 (List.length a1)), (vI a4)])), none, none, (some (.box 26 [(vL Node.c a5), (vL Val.c a6)])), (some (.row 5 1 (List.map (cK .u8) l33))), (some (.box 59 [(vI a7), (vI a8)])), (some (.row 5 1 (List.map (cK .u8) a3)))] (one_app (f := (cK .u8)) (o := 6) g34 (fun _ => ⟨rfl, rfl⟩)) ?_
       refine o_r1 [(0, (.own 6 (List.length l33)))] ?_
       refine o_end (k32 _ ?_)
       refine c_ops ?_
       refine o_r3 [(5, (vI (wr .i64 (Int.tdiv x26 128)))), (22, (vI x26)), (23, (vI (wr .i64 (Int.tdiv x26 128))))] ?_
       exact o_end (w18 _ _ _ (wkm [0, 5] (wh_none (wh_keep (row_below cK_p _ _ _ _) (whk (wh_none (wh_none (whk (wh_keep (row_below cK_p _ _ _ _) (whk (wh_keep (row_below cK_p _ _ _ _) wh_nil)))))))))) h)
     · refine c_exit (hE17 _ ?_)
       exact w16 _ _ _ (wkm [0, 5] (wh_none (wh_keep (row_below cK_p _ _ _ _) (whk (wh_none (wh_none (whk (wh_keep (row_below cK_p _ _ _ _) (whk (wh_keep (row_below cK_p _ _ _ _) wh_nil)))))))))) h
 · intro N12 w12
   refine s_so fun N13 k13 w13 => ?_
   refine o_r2 [(8, (vI a9)), (9, (vB (decide (a9 < 0))))] ?_
   refine o_end (k13 _ ?_)
   refine i_c [9] h (fun h => ?_) (fun h => ?_)
   · refine c_ops ?_
     refine o_r4 [(5, (vI (wr .i64 ((wr .i64 ((-2) * a9)) - 1)))), (10, (vI a9)), (11, (vI (wr .i64 ((-2) * a9)))), (12, (vI (wr .i64 ((wr .i64 ((-2) * a9)) - 1))))] ?_
     exact o_end (w12 _ _ (wkm [0, 5] (wh_none (wh_keep (row_below cK_p _ _ _ _) (whk (wh_none (wh_none (whk (wh_keep (row_below cK_p _ _ _ _) (whk (wh_keep (row_below cK_p _ _ _ _) wh_nil)))))))))) h)
   · exact c_skip (w12 _ _ (wkm [0, 5] (wh_none (wh_keep (row_below cK_p _ _ _ _) (whk (wh_none (wh_none (whk (wh_keep (row_below cK_p _ _ _ _) (whk (wh_keep (row_below cK_p _ _ _ _) wh_nil)))))))))) h)
theorem ic69 : fnIC Try.prog H0 69 = some ([.tmp 4], 22, (.seq (.ops [zO 3 (.box 0 59 [] (.t 1)), zO 4 (.nil 0 5 1)]) (.seq (.seq (.ops [zO 5 (.faddr (.t 3) 0), zO 6 (.ld (.t 5) 1 false)]) (.block 0 (.seq (.ops [zO 8 (.sc (.bin .eql 3) [(.t 6), (.c (.int .i64 3))]), zM 7 8]) (.cond (.t 7)
  (.seq (.ops [zM 9 0, zO 10 (.callv (.f 68) [(.t 9), (.c (.int .i64 0))]), zM 4 10]) .ret)
  (.seq (.ops [zO 12 (.sc (.bin .eql 3) [(.t 6), (.c (.int .i64 4))]), zM 11 12]) (.cond (.t 11)
  (.seq (.ops [zM 13 0, zO 14 (.faddr (.t 3) 1), zO 15 (.ld (.t 14) 1 false), zO 16 (.sc (.bin .add 3) [(.t 15), (.c (.int .i64 1))]), zO 17 (.callv (.f 68) [(.t 13), (.t 16)]), zM 4 17]) .ret)
  .skip)))))) (.seq (.ops [zM 18 0, zO 19 (.faddr (.t 3) 1), zO 20 (.ld (.t 19) 1 false), zO 21 (.callv (.f 68) [(.t 18), (.t 20)]), zM 4 21]) .ret)))) := by kernel_rfl
def f69 (n : Nat) (a1 : (List Int)) (a2 : (List Int)) (a3 : Int) (a4 : (List Node)) (a5 : (List Val)) (a6 : Int) (a7 : Int) : Option (List Int) := (bif (a6 == 3) then ((f68_c n a1 a2 [] a3 a4 a5 a6 a7 0).bind fun r15 => some r15) else (bif (a6 == 4) then ((f68_c n a1 a2 [] a3 a4 a5 a6 a7 (wr .i64 (a7 + 1))).bind fun r20 => some r20) else ((f68_c n a1 a2 [] a3 a4 a5 a6 a7 a7).bind fun r23 => some r23)))
def f69_r (a1 : (List Int)) (a2 : (List Int)) (a3 : Int) (a4 : (List Node)) (a5 : (List Val)) (a6 : Int) (a7 : Int) (r : (List Int)) : AV := (.own 6 (List.length r))
def f69_h (a1 : (List Int)) (a2 : (List Int)) (a3 : Int) (a4 : (List Node)) (a5 : (List Val)) (a6 : Int) (a7 : Int) (r : (List Int)) : Heap := [none, (some (.row 5 1 (List.map (cK .u8) a1))), (some (.box 38 [(.own 1 (List.length a1)), (vI a3)])), none, none, (some (.box 26 [(vL Node.c a4), (vL Val.c a5)])), (some (.row 5 1 (List.map (cK .u8) r)))]
theorem q_f69 {n : Nat} {a1 : (List Int)} {a2 : (List Int)} {a3 : Int} {a4 : (List Node)} {a5 : (List Val)} {a6 : Int} {a7 : Int} {r : (List Int)} (h : f69 n a1 a2 a3 a4 a5 a6 a7 = some r) : HSpec Try.prog 69 [(.own 6 (List.length a2)), (.agg [(vI a6), (vI a7)])] [none, (some (.row 5 1 (List.map (cK .u8) a1))), (some (.box 38 [(.own 1 (List.length a1)), (vI a3)])), none, none, (some (.box 26 [(vL Node.c a4), (vL Val.c a5)])), (some (.row 5 1 (List.map (cK .u8) a2)))] (f69_r a1 a2 a3 a4 a5 a6 a7 r) (f69_h a1 a2 a3 a4 a5 a6 a7 r) := by
 rw [f69.eq_1] at h
 refine heap_of hmix ic69 ?_
 refine go_to (mkd (.val undef) 22 0 [(0, (.own 6 (List.length a2))), (1, (.agg [(vI a6), (vI a7)]))]) ?_
 refine s_so fun N8 k8 w8 => ?_
 refine o_h2 [(3, (.ptr 7 0)), (4, (.own 8 0))] [none, (some (.row 5 1 (List.map (cK .u8) a1))), (some (.box 38 [(.own 1 (List.length a1)), (vI a3)])), none, none, (some (.box 26 [(vL Node.c a4), (vL Val.c a5)])), (some (.row 5 1 (List.map (cK .u8) a2))), (some (.box 59 [(vI a6), (vI a7)])), (some (.row 5 1 (List.map (cK .u8) [])))] ?_
 refine o_end (k8 _ ?_)
 refine s_seq fun N9 k9 w9 => ?_
 refine s_so fun N10 k10 w10 => ?_
 refine o_r2 [(5, (.ptr 7 0)), (6, (vI a6))] ?_
 refine o_end (k10 _ ?_)
 refine c_block fun E11 hE11 hO11 => ?_
 refine s_so fun N12 k12 w12 => ?_
 refine o_r2 [(7, (vB (a6 == 3))), (8, (vB (a6 == 3)))] ?_
 refine o_end (k12 _ ?_)
 refine i_c [7, 8] h (fun h => ?_) (fun h => ?_)
 · refine s_so fun N14 k14 w14 => ?_
   refine o_r1 [(9, (.own 6 (List.length a2)))] ?_
   refine bnd h fun r15 g16 h => ?_
   refine o_x [none, (some (.row 5 1 (List.map (cK .u8) a1))), (some (.box 38 [(.own 1 (List.length a1)), (vI a3)])), none, none, (some (.box 26 [(vL Node.c a4), (vL Val.c a5)])), (some (.row 5 1 (List.map (cK .u8) r15))), (some (.box 59 [(vI a6), (vI a7)])), (some (.row 5 1 (List.map (cK .u8) [])))] (one_callH (caps := []) (q_f68_c g16)) ?_
   refine o_r1 [(4, (.own 6 (List.length r15)))] ?_
   refine o_end (k14 _ ?_)
   exact c_ret (retsH [(.own 6 (List.length r15))] [(.own 6 (List.length r15))] h (wkm [0] (wh_none (wh_keep (row_below cK_p _ _ _ _) (whk (wh_none (wh_none (whk (wh_keep (row_below cK_p _ _ _ _) wh_nil)))))))))
 · refine s_so fun N17 k17 w17 => ?_
   refine o_r2 [(11, (vB (a6 == 4))), (12, (vB (a6 == 4)))] ?_
   refine o_end (k17 _ ?_)
   refine i_c [11, 12] h (fun h => ?_) (fun h => ?_)
   · refine s_so fun N19 k19 w19 => ?_
     refine o_r4 [(13, (.own 6 (List.length a2))), (14, (.ptr 7 1)), (15, (vI a7)), (16, (vI (wr .i64 (a7 + 1))))] ?_
     refine bnd h fun r20 g21 h => ?_
     refine o_x [none, (some (.row 5 1 (List.map (cK .u8) a1))), (some (.box 38 [(.own 1 (List.length a1)), (vI a3)])), none, none, (some (.box 26 [(vL Node.c a4), (vL Val.c a5)])), (some (.row 5 1 (List.map (cK .u8) r20))), (some (.box 59 [(vI a6), (vI a7)])), (some (.row 5 1 (List.map (cK .u8) [])))] (one_callH (caps := []) (q_f68_c g21)) ?_
     refine o_r1 [(4, (.own 6 (List.length r20)))] ?_
     refine o_end (k19 _ ?_)
     exact c_ret (retsH [(.own 6 (List.length r20))] [(.own 6 (List.length r20))] h (wkm [0] (wh_none (wh_keep (row_below cK_p _ _ _ _) (whk (wh_none (wh_none (whk (wh_keep (row_below cK_p _ _ _ _) wh_nil)))))))))
   · refine c_skip (k9 _ ?_)
     refine s_so fun N22 k22 w22 => ?_
     refine o_r3 [(18, (.own 6 (List.length a2))), (19, (.ptr 7 1)), (20, (vI a7))] ?_
     refine bnd h fun r23 g24 h => ?_
     refine o_x [none, (some (.row 5 1 (List.map (cK .u8) a1))), (some (.box 38 [(.own 1 (List.length a1)), (vI a3)])), none, none, (some (.box 26 [(vL Node.c a4), (vL Val.c a5)])), (some (.row 5 1 (List.map (cK .u8) r23))), (some (.box 59 [(vI a6), (vI a7)])), (some (.row 5 1 (List.map (cK .u8) [])))] (one_callH (caps := []) (q_f68_c g24)) ?_
     refine o_r1 [(4, (.own 6 (List.length r23)))] ?_
     refine o_end (k22 _ ?_)
     exact c_ret (retsH [(.own 6 (List.length r23))] [(.own 6 (List.length r23))] h (wkm [0] (wh_none (wh_keep (row_below cK_p _ _ _ _) (whk (wh_none (wh_none (whk (wh_keep (row_below cK_p _ _ _ _) wh_nil)))))))))
theorem ic73 : fnIC Try.prog H0 73 = some ([.tmp 2], 21, (.seq (.ops [zO 2 (.mov (.c (.int .i64 0)))]) (.seq (.ops [zO 3 (.mov (.c (.int .i64 1)))]) (.seq (.seq (.ops [zO 4 (.mov (.c (.int .i64 0)))]) (.block 0 (.loop (.seq (.seq (.ops [zM 5 4, zM 6 0, zO 7 (.len false (.t 6)), zO 8 (.sc (.bin .lss 3) [(.t 5), (.t 7)])]) (.cond (.t 8)
  .skip
  (.exit 0))) (.seq (.block 1 (.ops [zM 11 3, zO 12 (.sc (.bin .mul 3) [(.c (.int .i64 31)), (.t 11)]), zM 13 0, zM 14 4, zO 15 (.iaddr 1 (.t 13) (.t 14)), zO 16 (.ld (.t 15) 1 false), zO 17 (.sc (.conv 5 3) [(.t 16)]), zO 18 (.sc (.bin .add 3) [(.t 12), (.t 17)]), zO 19 (.sc (.bin .rem 3) [(.t 18), (.c (.int .i64 2147483647))]), zM 3 19])) (.ops [zM 9 4, zO 10 (.sc (.bin .add 3) [(.t 9), (.c (.int .i64 1))]), zM 4 10])))))) (.seq (.ops [zM 20 3, zM 2 20]) .ret))))) := by kernel_rfl
def f73_k4 (x26 : Int) : Option Int := some x26
def f73_l7 (a1 : (List Int)) (k4k : Int → Option Int) : Nat → Int → Int → Option Int
  | 0, _, _ => none
  | m7 + 1, x16, x17 => (bif (decide (x17 < (len a1))) then ((gi a1 x17).bind fun x24 => (f73_l7 a1 (k4k) m7 (Int.tmod (wr .i64 ((wr .i64 (31 * x16)) + (wr .i64 x24))) 2147483647) (wr .i64 (x17 + 1)))) else (k4k x16))
def f73 (n : Nat) (a1 : (List Int)) : Option Int := (f73_l7 a1 (f73_k4) n 1 0)
def f73_r (r : Int) : AV := (vI r)
theorem p_f73 {n : Nat} {a1 : (List Int)} {r : Int} (h : f73 n a1 = some r) : PureSpec Try.prog 73 [(vL (cK .u8) a1)] (f73_r r) := by
 rw [f73.eq_1] at h
 refine pure_of hmix ic73 ?_
 refine go_to (mkd (.val undef) 21 0 [(0, (vL (cK .u8) a1))]) ?_
 refine s_so fun N2 k2 w2 => ?_
 refine o_r1 [(2, (vI 0))] ?_
 refine o_end (k2 _ ?_)
 refine s_so fun N3 k3 w3 => ?_
 refine o_r1 [(3, (vI 1))] ?_
 refine o_end (k3 _ ?_)
 refine J1 (r := r) (fun (x26 : Int) => ⟨(mkd .any 21 0 [(3, (vI x26))]), []⟩) (f73_k4) ?_ ?_
 · intro x26 h
   rw [f73_k4.eq_1] at h
   refine s_so fun N27 k27 w27 => ?_
   refine o_r2 [(2, (vI x26)), (20, (vI x26))] ?_
   refine o_end (k27 _ ?_)
   exact c_ret (rets [] [(vI x26)] [(vI x26)] h)
 · intro N4 w4
   refine s_so fun N5 k5 w5 => ?_
   refine o_r1 [(4, (vI 0))] ?_
   refine o_end (k5 _ ?_)
   refine c_block fun E6 hE6 hO6 => ?_
   refine W2 (fun (x16 : Int) (x17 : Int) => ⟨(mkd .any 21 0 [(0, (vL (cK .u8) a1)), (3, (vI x16)), (4, (vI x17))]), []⟩) (f73_l7 a1 (f73_k4)) h (wkm [0, 3, 4] wh_nil) (by intros; rw [f73_l7.eq_1]) ?_
   intro m7 x16 x17 h N7 w7
   rw [f73_l7.eq_2] at h
   refine s_seq fun N18 k18 w18 => ?_
   refine s_so fun N19 k19 w19 => ?_
   refine o_r2 [(5, (vI x17)), (6, (vL (cK .u8) a1))] ?_
   refine o_o (one_len (f := (cK .u8)) (l := a1)) ?_
   refine o_r1 [(8, (vB (decide (x17 < (len a1)))))] ?_
   refine o_end (k19 _ ?_)
   refine i_c [8] h (fun h => ?_) (fun h => ?_)
   · refine c_skip (k18 _ ?_)
     refine s_seq fun N22 k22 w22 => ?_
     refine c_block fun E23 hE23 hO23 => ?_
     refine c_ops ?_
     refine o_r4 [(11, (vI x16)), (12, (vI (wr .i64 (31 * x16)))), (13, (vL (cK .u8) a1)), (14, (vI x17))] ?_
     refine bnd h fun x24 g25 h => ?_
     refine o_o (one_ia (f := (cK .u8)) (ki := .i64) g25) ?_
     refine o_r5 [(3, (vI (Int.tmod (wr .i64 ((wr .i64 (31 * x16)) + (wr .i64 x24))) 2147483647))), (16, (vKi .u8 x24)), (17, (vI (wr .i64 x24))), (18, (vI (wr .i64 ((wr .i64 (31 * x16)) + (wr .i64 x24))))), (19, (vI (Int.tmod (wr .i64 ((wr .i64 (31 * x16)) + (wr .i64 x24))) 2147483647)))] ?_
     refine o_end (k22 _ ?_)
     refine c_ops ?_
     refine o_r3 [(4, (vI (wr .i64 (x17 + 1)))), (9, (vI x17)), (10, (vI (wr .i64 (x17 + 1))))] ?_
     exact o_end (w7 _ _ _ (wkm [0, 3, 4] wh_nil) h)
   · refine c_exit (hE6 _ ?_)
     exact w4 _ _ (wkm [3] wh_nil) h
theorem ic25 : fnIC Try.prog H25 25 = some ([.tmp 2], 25, (.seq (.ops [zO 2 (.nil 0 5 1)]) (.seq (.ops [zM 4 0, zO 5 (.call 73 [(.t 4)]), zM 3 5]) (.seq (.ops [zO 6 (.bsl 0 true 5 1 []), zM 7 0, zO 8 (.app 0 5 1 1 (.t 6) (.t 7)), zM 9 3, zO 10 (.sc (.bin .quo 3) [(.t 9), (.c (.int .i64 16777216))]), zO 11 (.sc (.conv 3 5) [(.t 10)]), zM 12 3, zO 13 (.sc (.bin .quo 3) [(.t 12), (.c (.int .i64 65536))]), zO 14 (.sc (.bin .rem 3) [(.t 13), (.c (.int .i64 256))]), zO 15 (.sc (.conv 3 5) [(.t 14)]), zM 16 3, zO 17 (.sc (.bin .quo 3) [(.t 16), (.c (.int .i64 256))]), zO 18 (.sc (.bin .rem 3) [(.t 17), (.c (.int .i64 256))]), zO 19 (.sc (.conv 3 5) [(.t 18)]), zM 20 3, zO 21 (.sc (.bin .rem 3) [(.t 20), (.c (.int .i64 256))]), zO 22 (.sc (.conv 3 5) [(.t 21)]), zO 23 (.isl 1 [(.t 11), (.t 15), (.t 19), (.t 22)]), zO 24 (.app 0 5 1 1 (.t 8) (.t 23)), zM 2 24]) .ret)))) := by kernel_rfl
def f25 (n : Nat) (a1 : (List Int)) (a2 : (List Int)) (a3 : Int) : Option (List Int) := ((f73 n a2).bind fun r6 => ((app2 [] a2).bind fun l10 => ((app2 l10 [(wr .u8 (wr .i64 (Int.tdiv r6 16777216))), (wr .u8 (Int.tmod (wr .i64 (Int.tdiv r6 65536)) 256)), (wr .u8 (Int.tmod (wr .i64 (Int.tdiv r6 256)) 256)), (wr .u8 (Int.tmod r6 256))]).bind fun l12 => some l12)))
def f25_r (a1 : (List Int)) (a2 : (List Int)) (a3 : Int) (r : (List Int)) : AV := (.own 8 (List.length r))
def f25_h (a1 : (List Int)) (a2 : (List Int)) (a3 : Int) (r : (List Int)) : Heap := [none, (some (.row 5 1 (List.map (cK .u8) a1))), (some (.box 38 [(.own 1 (List.length a1)), (vI a3)])), none, none, none, (some (.row 5 1 (List.map (cK .u8) a2))), none, (some (.row 5 1 (List.map (cK .u8) r)))]
theorem q_f25 {n : Nat} {a1 : (List Int)} {a2 : (List Int)} {a3 : Int} {r : (List Int)} (h : f25 n a1 a2 a3 = some r) : HSpec Try.prog 25 [(.own 6 (List.length a2))] [none, (some (.row 5 1 (List.map (cK .u8) a1))), (some (.box 38 [(.own 1 (List.length a1)), (vI a3)])), none, none, none, (some (.row 5 1 (List.map (cK .u8) a2)))] (f25_r a1 a2 a3 r) (f25_h a1 a2 a3 r) := by
 rw [f25.eq_1] at h
 refine heap_of hmix ic25 ?_
 refine go_to (mkd (.val undef) 25 0 [(0, (.own 6 (List.length a2)))]) ?_
 refine s_so fun N4 k4 w4 => ?_
 refine o_h1 [(2, (.own 7 0))] [none, (some (.row 5 1 (List.map (cK .u8) a1))), (some (.box 38 [(.own 1 (List.length a1)), (vI a3)])), none, none, none, (some (.row 5 1 (List.map (cK .u8) a2))), (some (.row 5 1 (List.map (cK .u8) [])))] ?_
 refine o_end (k4 _ ?_)
 refine s_so fun N5 k5 w5 => ?_
 refine o_r1 [(4, (.own 6 (List.length a2)))] ?_
 refine bnd h fun r6 g7 h => ?_
 refine o_o (one_callF [6] [(.own 6 (List.length a2))] (p_f73 g7) ⟨(fz_own (g := (cK .u8)) (l := a2) (t := 5) (sz := 1) cK_p), trivial⟩ (ns_v _)) ?_
 refine o_r1 [(3, (vI r6))] ?_
 refine o_end (k5 _ ?_)
 refine s_so fun N8 k8 w8 => ?_
 refine o_x [none, (some (.row 5 1 (List.map (cK .u8) a1))), (some (.box 38 [(.own 1 (List.length a1)), (vI a3)])), none, none, none, (some (.row 5 1 (List.map (cK .u8) a2))), (some (.row 5 1 (List.map (cK .u8) []))), (some (.row 5 1 (List.map (cK .u8) [])))] (one_bsl (f := (cK .u8)) (ys := []) [] [] [] rl_nil) ?_
 refine o_r1 [(7, (.own 6 (List.length a2)))] ?_
 refine bnd h fun l10 g11 h => ?_
 refine o_x [none, (some (.row 5 1 (List.map (cK .u8) a1))), (some (.box 38 [(.own 1 (List.length a1)), (vI a3)])), none, none, none, (some (.row 5 1 (List.map (cK .u8) a2))), (some (.row 5 1 (List.map (cK .u8) []))), (some (.row 5 1 (List.map (cK .u8) l10)))] (one_app (f := (cK .u8)) (o := 8) g11 (fun _ => ⟨rfl, rfl⟩) (hy := asL_own (t := 5) (sz := 1) (by kernel_rfl))) ?_
 refine o_r15 [(9, (vI r6)), (10, (vI (wr .i64 (Int.tdiv r6 16777216)))), (11, (vKi .u8 (wr .u8 (wr .i64 (Int.tdiv r6 16777216))))), (12, (vI r6)), (13, (vI (wr .i64 (Int.tdiv r6 65536)))), (14, (vI (Int.tmod (wr .i64 (Int.tdiv r6 65536)) 256))), (15, (vKi .u8 (wr .u8 (Int.tmod (wr .i64 (Int.tdiv r6 65536)) 256)))), (16, (vI r6)), (17, (vI (wr .i64 (Int.tdiv r6 256)))), (18, (vI (Int.tmod (wr .i64 (Int.tdiv r6 256)) 256))), (19, (vKi .u8 (wr .u8 (Int.tmod (wr .i64 (Int.tdiv r6 256)) 256)))), (20, (vI r6)), (21, (vI (Int.tmod r6 256))), (22, (vKi .u8 (wr .u8 (Int.tmod r6 256)))), (23, (vL (cK .u8) [(wr .u8 (wr .i64 (Int.tdiv r6 16777216))), (wr .u8 (Int.tmod (wr .i64 (Int.tdiv r6 65536)) 256)), (wr .u8 (Int.tmod (wr .i64 (Int.tdiv r6 256)) 256)), (wr .u8 (Int.tmod r6 256))]))] ?_
 refine bnd h fun l12 g13 h => ?_
 refine o_x [none, (some (.row 5 1 (List.map (cK .u8) a1))), (some (.box 38 [(.own 1 (List.length a1)), (vI a3)])), none, none, none, (some (.row 5 1 (List.map (cK .u8) a2))), (some (.row 5 1 (List.map (cK .u8) []))), (some (.row 5 1 (List.map (cK .u8) l12)))] (one_app (f := (cK .u8)) (o := 8) g13 (fun _ => ⟨rfl, rfl⟩)) ?_
 refine o_r1 [(2, (.own 8 (List.length l12)))] ?_
 refine o_end (w8 _ ⟨(mkd .any 25 0 [(2, (.own 8 (List.length l12)))]), [none, (some (.row 5 1 (List.map (cK .u8) a1))), (some (.box 38 [(.own 1 (List.length a1)), (vI a3)])), none, none, none, (some (.row 5 1 (List.map (cK .u8) a2))), none, (some (.row 5 1 (List.map (cK .u8) l12)))]⟩ (wkm [2] (wh_none (wh_keep (row_below cK_p _ _ _ _) (whk (wh_none (wh_none (wh_none (wh_keep (row_below cK_p _ _ _ _) (wh_drop (wh_keep (row_below cK_p _ _ _ _) wh_nil)))))))))) ?_)
 exact c_ret (retsH [(.own 8 (List.length l12))] [(.own 8 (List.length l12))] h (wkm [0] (wh_none (wh_keep (row_below cK_p _ _ _ _) (whk (wh_none (wh_none (wh_none (wh_keep (row_below cK_p _ _ _ _) (wh_none (wh_keep (row_below cK_p _ _ _ _) wh_nil)))))))))))
theorem ic21 : fnIC Try.prog H0 21 = some ([.cell 4 38], 91, (.seq (.ops [zO 3 (.box 0 26 [(0, 57, 2, 0), (1, 59, 2, 0)] (.t 1)), zO 4 (.alloc 0 38 [(0, 5, 1, 0)] [(.slice none 0 0), (.int .i64 0)])]) (.seq (.ops [zM 11 0, zO 12 (.ld (.t 3) 2 true), zO 13 (.call 19 [(.t 11), (.t 12)]), zM 5 13]) (.seq (.seq (.ops [zM 14 5, zO 15 (.sc (.bin .neq 30) [(.t 14), (.c (.int .i64 0))])]) (.cond (.t 15)
  (.seq (.ops [zM 16 5, zO 17 (.bld [(.slice none 0 0), (.int .i64 0)] [(1, 1, (.t 16))]), zU (.st true 2 [(0, 5, 1, 0)] (.t 4) (.t 17))]) .ret)
  .skip)) (.seq (.ops [zO 18 (.ld (.t 3) 2 true), zO 19 (.call 67 [(.t 18)]), zO 20 (.fld (.t 19) 0 2 true), zO 6 (.alloc 0 26 [(0, 57, 2, 0), (1, 59, 2, 0)] [(.slice none 0 0), (.slice none 0 0)]), zU (.st true 2 [(0, 57, 2, 0), (1, 59, 2, 0)] (.t 6) (.t 20))]) (.seq (.ops [zO 21 (.faddr (.t 6) 0), zO 22 (.ld (.t 21) 1 false), zO 23 (.len false (.t 22)), zO 24 (.callv (.f 68) [(.c (.slice none 0 0)), (.t 23)]), zM 7 24]) (.seq (.seq (.ops [zO 8 (.mov (.c (.int .i64 0)))]) (.block 0 (.loop (.seq (.seq (.ops [zM 25 8, zO 26 (.faddr (.t 6) 0), zO 27 (.ld (.t 26) 1 false), zO 28 (.len false (.t 27)), zO 29 (.sc (.bin .lss 3) [(.t 25), (.t 28)])]) (.cond (.t 29)
  .skip
  (.exit 0))) (.seq (.block 1 (.seq (.ops [zM 32 7, zM 33 0, zO 34 (.faddr (.t 6) 0), zO 35 (.ld (.t 34) 1 false), zM 36 8, zO 37 (.iaddr 2 (.t 35) (.t 36)), zO 38 (.faddr (.t 37) 0), zO 39 (.ld (.t 38) 1 false), zO 40 (.call 55 [(.t 33), (.t 39)]), zO 41 (.callv (.f 68) [(.t 32), (.t 40)]), zM 7 41]) (.seq (.ops [zO 9 (.mov (.c (.int .i64 0)))]) (.block 2 (.loop (.seq (.seq (.ops [zM 42 9, zO 43 (.faddr (.t 6) 0), zO 44 (.ld (.t 43) 1 false), zM 45 8, zO 46 (.iaddr 2 (.t 44) (.t 45)), zO 47 (.faddr (.t 46) 1), zO 48 (.ld (.t 47) 1 false), zO 49 (.len false (.t 48)), zO 50 (.sc (.bin .lss 3) [(.t 42), (.t 49)])]) (.cond (.t 50)
  .skip
  (.exit 2))) (.seq (.block 3 (.ops [zM 53 7, zO 54 (.faddr (.t 6) 0), zO 55 (.ld (.t 54) 1 false), zM 56 8, zO 57 (.iaddr 2 (.t 55) (.t 56)), zO 58 (.faddr (.t 57) 1), zO 59 (.ld (.t 58) 1 false), zM 60 9, zO 61 (.iaddr 2 (.t 59) (.t 60)), zO 62 (.ld (.t 61) 2 true), zO 63 (.callv (.f 69) [(.t 53), (.t 62)]), zM 7 63])) (.ops [zM 51 9, zO 52 (.sc (.bin .add 3) [(.t 51), (.c (.int .i64 1))]), zM 9 52])))))))) (.ops [zM 30 8, zO 31 (.sc (.bin .add 3) [(.t 30), (.c (.int .i64 1))]), zM 8 31])))))) (.seq (.ops [zM 64 7, zO 65 (.faddr (.t 6) 1), zO 66 (.ld (.t 65) 1 false), zO 67 (.len false (.t 66)), zO 68 (.callv (.f 68) [(.t 64), (.t 67)]), zM 7 68]) (.seq (.seq (.ops [zO 10 (.mov (.c (.int .i64 0)))]) (.block 4 (.loop (.seq (.seq (.ops [zM 69 10, zO 70 (.faddr (.t 6) 1), zO 71 (.ld (.t 70) 1 false), zO 72 (.len false (.t 71)), zO 73 (.sc (.bin .lss 3) [(.t 69), (.t 72)])]) (.cond (.t 73)
  .skip
  (.exit 4))) (.seq (.block 5 (.ops [zM 76 7, zO 77 (.faddr (.t 6) 1), zO 78 (.ld (.t 77) 1 false), zM 79 10, zO 80 (.iaddr 2 (.t 78) (.t 79)), zO 81 (.ld (.t 80) 2 true), zO 82 (.callv (.f 69) [(.t 76), (.t 81)]), zM 7 82])) (.ops [zM 74 10, zO 75 (.sc (.bin .add 3) [(.t 74), (.c (.int .i64 1))]), zM 10 75])))))) (.seq (.seq (.ops [zM 83 7, zO 84 (.len false (.t 83)), zO 85 (.sc (.bin .add 3) [(.t 84), (.c (.int .i64 4))]), zO 86 (.sc (.bin .gtr 3) [(.t 85), (.c (.int .i64 60000))])]) (.cond (.t 86)
  (.seq (.ops [zO 87 (.bld [(.slice none 0 0), (.int .i64 0)] [(1, 1, (.c (.int .i64 3)))]), zU (.st true 2 [(0, 5, 1, 0)] (.t 4) (.t 87))]) .ret)
  .skip)) (.seq (.ops [zM 88 7, zO 89 (.callv (.f 25) [(.t 88)]), zO 90 (.bld [(.slice none 0 0), (.int .i64 0)] [(0, 1, (.t 89))]), zU (.st true 2 [(0, 5, 1, 0)] (.t 4) (.t 90))]) .ret))))))))))) := by kernel_rfl
def f21_k75 (x69 : Int) (c21k : Int → (List Int) → Option BE) (x117 : (List Int)) : Option BE := (c21k (wr .i64 (x69 + 1)) x117)
def f21_l86 (r12 : GAtE) (x69 : Int) (n : Nat) (k75k : (List Int) → Option BE) : Nat → Int → (List Int) → Option BE
  | 0, _, _ => none
  | m86 + 1, x101, x102 => ((gi r12.fG.fNodes x69).bind fun x105 => (bif (decide (x101 < (len x105.fVals))) then ((gi r12.fG.fNodes x69).bind fun x111 => ((gi x111.fVals x101).bind fun x113 => ((f69 n [] x102 0 r12.fG.fNodes r12.fG.fRoots x113.fKind x113.fN).bind fun r115 => (f21_l86 r12 x69 n (k75k) m86 (wr .i64 (x101 + 1)) r115)))) else (k75k x102)))
def f21_k123 (n : Nat) (x149 : (List Int)) : Option BE := (bif (decide ((wr .i64 ((len x149) + 4)) > 60000)) then some (BE.mk [] 3) else ((f25 n [] x149 0).bind fun r156 => some (BE.mk r156 0)))
def f21_l126 (r12 : GAtE) (n : Nat) (k123k : (List Int) → Option BE) : Nat → Int → (List Int) → Option BE
  | 0, _, _ => none
  | m126 + 1, x137, x138 => (bif (decide (x137 < (len r12.fG.fRoots))) then ((gi r12.fG.fRoots x137).bind fun x145 => ((f69 n [] x138 0 r12.fG.fNodes r12.fG.fRoots x145.fKind x145.fN).bind fun r147 => (f21_l126 r12 n (k123k) m126 (wr .i64 (x137 + 1)) r147))) else (k123k x138))
def f21_k18 (n : Nat) (r12 : GAtE) (x118 : (List Int)) : Option BE := ((f68_b n [] x118 0 r12.fG.fNodes r12.fG.fRoots (len r12.fG.fRoots)).bind fun r121 => (f21_l126 r12 n (f21_k123 n) n 0 r121))
def f21_l21 (r12 : GAtE) (n : Nat) (a1 : (List Form)) (k18k : (List Int) → Option BE) : Nat → Int → (List Int) → Option BE
  | 0, _, _ => none
  | m21 + 1, x69, x70 => (bif (decide (x69 < (len r12.fG.fNodes))) then ((gi r12.fG.fNodes x69).bind fun x78 => ((f55 n a1 x78.fClass).bind fun r80 => ((f68_b n [] x70 0 r12.fG.fNodes r12.fG.fRoots r80).bind fun r82 => (f21_l86 r12 x69 n (f21_k75 x69 (f21_l21 r12 n a1 (k18k) m21)) n 0 r82)))) else (k18k x70))
def f21 (n : Nat) (a1 : (List Form)) (a2 : Graph) : Option BE := ((f19 n a1 a2).bind fun r5 => (bif (r5 != 0) then some (BE.mk [] r5) else ((f67 n a2).bind fun r12 => ((f68 n [] [] [] [] a2.fNodes a2.fRoots 0 r12.fG.fNodes r12.fG.fRoots (len r12.fG.fNodes)).bind fun r16 => (f21_l21 r12 n a1 (f21_k18 n r12) n 0 r16)))))
def f21_r (r : BE) : AV := (.agg [(vL (cK .u8) r.fB), (vI r.fE)])
theorem p_f21 {n : Nat} {a1 : (List Form)} {a2 : Graph} {r : BE} (h : f21 n a1 a2 = some r) : PureSpec Try.prog 21 [(vL Form.c a1), (.agg [(vL Node.c a2.fNodes), (vL Val.c a2.fRoots)])] (f21_r r) := by
 rw [f21.eq_1] at h
 refine pure_of hmix ic21 ?_
 refine go_to (mkd (.val undef) 91 0 [(0, (vL Form.c a1)), (1, (.agg [(vL Node.c a2.fNodes), (vL Val.c a2.fRoots)]))]) ?_
 refine s_so fun N3 k3 w3 => ?_
 refine o_h2 [(3, (.ptr 0 0)), (4, (.ptr 2 0))] [(some (.box 26 [(vL Node.c a2.fNodes), (vL Val.c a2.fRoots)])), (some (.row 5 1 (List.map (cK .u8) []))), (some (.box 38 [(.own 1 0), (vI 0)]))] ?_
 refine o_end (k3 _ ?_)
 refine s_so fun N4 k4 w4 => ?_
 refine o_r2 [(11, (vL Form.c a1)), (12, (.agg [(vL Node.c a2.fNodes), (vL Val.c a2.fRoots)]))] ?_
 refine bnd h fun r5 g6 h => ?_
 refine o_o (one_call (p_f19 g6)) ?_
 refine o_r1 [(5, (vI r5))] ?_
 refine o_end (k4 _ ?_)
 refine s_seq fun N7 k7 w7 => ?_
 refine s_so fun N8 k8 w8 => ?_
 refine o_r2 [(14, (vI r5)), (15, (vB (r5 != 0)))] ?_
 refine o_end (k8 _ ?_)
 refine i_c [15] h (fun h => ?_) (fun h => ?_)
 · refine s_so fun N10 k10 w10 => ?_
   refine o_h3 [(16, (vI r5)), (17, (.agg [(.val (.slice none 0 0)), (vI r5)]))] [(some (.box 26 [(vL Node.c a2.fNodes), (vL Val.c a2.fRoots)])), (some (.row 5 1 (List.map (cK .u8) []))), (some (.box 38 [(.own 3 0), (vI r5)])), (some (.row 5 1 (List.map (cK .u8) [])))] ?_
   refine o_end (k10 _ ?_)
   exact c_ret (retsF [3] [(.agg [(.own 3 0), (vI r5)])] [(.agg [(vL (cK .u8) []), (vI r5)])] ⟨(fz_agg ⟨(fz_own (g := (cK .u8)) (l := []) (t := 5) (sz := 1) cK_p), fz_v, trivial⟩), trivial⟩ h)
 · refine c_skip (k7 _ ?_)
   refine s_so fun N11 k11 w11 => ?_
   refine o_r1 [(18, (.agg [(vL Node.c a2.fNodes), (vL Val.c a2.fRoots)]))] ?_
   refine bnd h fun r12 g13 h => ?_
   refine o_o (one_call (p_f67 g13)) ?_
   refine o_h3 [(6, (.ptr 5 0)), (20, (.agg [(vL Node.c r12.fG.fNodes), (vL Val.c r12.fG.fRoots)]))] [(some (.box 26 [(vL Node.c a2.fNodes), (vL Val.c a2.fRoots)])), (some (.row 5 1 (List.map (cK .u8) []))), (some (.box 38 [(.own 1 0), (vI 0)])), (some (.row 57 2 (List.map Node.c []))), (some (.row 59 2 (List.map Val.c []))), (some (.box 26 [(vL Node.c r12.fG.fNodes), (vL Val.c r12.fG.fRoots)]))] ?_
   refine o_end (k11 _ ?_)
   refine s_so fun N14 k14 w14 => ?_
   refine o_r2 [(21, (.ptr 5 0)), (22, (vL Node.c r12.fG.fNodes))] ?_
   refine o_o (one_len (f := Node.c) (l := r12.fG.fNodes)) ?_
   refine bnd h fun r16 g17 h => ?_
   refine o_x [(some (.box 26 [(vL Node.c a2.fNodes), (vL Val.c a2.fRoots)])), (some (.row 5 1 (List.map (cK .u8) []))), (some (.box 38 [(.own 1 0), (vI 0)])), (some (.row 57 2 (List.map Node.c []))), (some (.row 59 2 (List.map Val.c []))), (some (.box 26 [(vL Node.c r12.fG.fNodes), (vL Val.c r12.fG.fRoots)])), (some (.row 5 1 (List.map (cK .u8) r16)))] (one_callH (caps := []) (hspec_nil' 5 1 [(vI (len r12.fG.fNodes))] [(some (.box 26 [(vL Node.c a2.fNodes), (vL Val.c a2.fRoots)])), (some (.row 5 1 (List.map (cK .u8) []))), (some (.box 38 [(.own 1 0), (vI 0)])), (some (.row 57 2 (List.map Node.c []))), (some (.row 59 2 (List.map Val.c []))), (some (.box 26 [(vL Node.c r12.fG.fNodes), (vL Val.c r12.fG.fRoots)]))] (q_f68 g17))) ?_
   refine o_r1 [(7, (.own 6 (List.length r16)))] ?_
   refine s_tm (mkd (.val undef) 91 0 [(0, (vL Form.c a1)), (1, (.agg [(vL Node.c a2.fNodes), (vL Val.c a2.fRoots)])), (3, (.ptr 0 0)), (4, (.ptr 2 0)), (5, (vI r5)), (6, (.ptr 5 0)), (7, (.own 6 (List.length r16))), (11, (vL Form.c a1)), (12, (.agg [(vL Node.c a2.fNodes), (vL Val.c a2.fRoots)])), (13, (vI r5)), (14, (vI r5)), (15, (vB false)), (18, (.agg [(vL Node.c a2.fNodes), (vL Val.c a2.fRoots)])), (19, (.agg [(vL Node.c r12.fG.fNodes), (vL Val.c r12.fG.fRoots), (vL cI r12.fAt), (vI r12.fE)])), (20, (.agg [(vL Node.c r12.fG.fNodes), (vL Val.c r12.fG.fRoots)])), (21, (.ptr 5 0)), (22, (vL Node.c r12.fG.fNodes)), (23, (vI (len r12.fG.fNodes))), (24, (.own 6 (List.length r16)))]) ?_
   refine o_end (k14 _ ?_)
   refine J1 (r := r) (fun (x118 : (List Int)) => ⟨(mkd .any 91 0 [(4, (.ptr 2 0)), (6, (.ptr 5 0)), (7, (.own 6 (List.length x118)))]), [none, (some (.row 5 1 (List.map (cK .u8) []))), (some (.box 38 [(.own 1 0), (vI 0)])), none, none, (some (.box 26 [(vL Node.c r12.fG.fNodes), (vL Val.c r12.fG.fRoots)])), (some (.row 5 1 (List.map (cK .u8) x118)))]⟩) (f21_k18 n r12) ?_ ?_
   · intro x118 h
     rw [f21_k18.eq_1] at h
     refine s_so fun N119 k119 w119 => ?_
     refine o_r3 [(64, (.own 6 (List.length x118))), (65, (.ptr 5 1)), (66, (vL Val.c r12.fG.fRoots))] ?_
     refine o_o (one_len (f := Val.c) (l := r12.fG.fRoots)) ?_
     refine bnd h fun r121 g122 h => ?_
     refine o_x [none, (some (.row 5 1 (List.map (cK .u8) []))), (some (.box 38 [(.own 1 0), (vI 0)])), none, none, (some (.box 26 [(vL Node.c r12.fG.fNodes), (vL Val.c r12.fG.fRoots)])), (some (.row 5 1 (List.map (cK .u8) r121)))] (one_callH (caps := []) (q_f68_b g122)) ?_
     refine o_r1 [(7, (.own 6 (List.length r121)))] ?_
     refine o_end (k119 _ ?_)
     refine J1 (r := r) (fun (x149 : (List Int)) => ⟨(mkd .any 91 0 [(4, (.ptr 2 0)), (7, (.own 6 (List.length x149)))]), [none, (some (.row 5 1 (List.map (cK .u8) []))), (some (.box 38 [(.own 1 0), (vI 0)])), none, none, none, (some (.row 5 1 (List.map (cK .u8) x149)))]⟩) (f21_k123 n) ?_ ?_
     · intro x149 h
       rw [f21_k123.eq_1] at h
       refine s_seq fun N150 k150 w150 => ?_
       refine s_so fun N151 k151 w151 => ?_
       refine o_r1 [(83, (.own 6 (List.length x149)))] ?_
       refine o_o (one_lenO (f := (cK .u8)) (l := x149) (o := 6) (t := 5) (sz := 1)) ?_
       refine o_r2 [(85, (vI (wr .i64 ((len x149) + 4)))), (86, (vB (decide ((wr .i64 ((len x149) + 4)) > 60000))))] ?_
       refine o_end (k151 _ ?_)
       refine i_c [86] h (fun h => ?_) (fun h => ?_)
       · refine s_so fun N154 k154 w154 => ?_
         refine o_h2 [(87, (.agg [(.val (.slice none 0 0)), (vI 3)]))] [none, (some (.row 5 1 (List.map (cK .u8) []))), (some (.box 38 [(.own 7 0), (vI 3)])), none, none, none, (some (.row 5 1 (List.map (cK .u8) x149))), (some (.row 5 1 (List.map (cK .u8) [])))] ?_
         refine o_end (k154 _ ?_)
         exact c_ret (retsF [7] [(.agg [(.own 7 0), (vI 3)])] [(.agg [(vL (cK .u8) []), (vI 3)])] ⟨(fz_agg ⟨(fz_own (g := (cK .u8)) (l := []) (t := 5) (sz := 1) cK_p), fz_v, trivial⟩), trivial⟩ h)
       · refine c_skip (k150 _ ?_)
         refine s_so fun N155 k155 w155 => ?_
         refine o_r1 [(88, (.own 6 (List.length x149)))] ?_
         refine bnd h fun r156 g157 h => ?_
         refine o_x [none, (some (.row 5 1 (List.map (cK .u8) []))), (some (.box 38 [(.own 1 0), (vI 0)])), none, none, none, (some (.row 5 1 (List.map (cK .u8) x149))), none, (some (.row 5 1 (List.map (cK .u8) r156)))] (one_callH (caps := []) (q_f25 g157)) ?_
         refine o_h2 [(90, (.agg [(.own 8 (List.length r156)), (vI 0)]))] [none, (some (.row 5 1 (List.map (cK .u8) []))), (some (.box 38 [(.own 8 (List.length r156)), (vI 0)])), none, none, none, (some (.row 5 1 (List.map (cK .u8) x149))), none, (some (.row 5 1 (List.map (cK .u8) r156)))] ?_
         refine o_end (k155 _ ?_)
         exact c_ret (retsF [8] [(.agg [(.own 8 (List.length r156)), (vI 0)])] [(.agg [(vL (cK .u8) r156), (vI 0)])] ⟨(fz_agg ⟨(fz_own (g := (cK .u8)) (l := r156) (t := 5) (sz := 1) cK_p), fz_v, trivial⟩), trivial⟩ h)
     · intro N123 w123
       refine s_so fun N124 k124 w124 => ?_
       refine o_r1 [(10, (vI 0))] ?_
       refine o_end (k124 _ ?_)
       refine c_block fun E125 hE125 hO125 => ?_
       refine W2 (fun (x137 : Int) (x138 : (List Int)) => ⟨(mkd .any 91 0 [(4, (.ptr 2 0)), (6, (.ptr 5 0)), (7, (.own 6 (List.length x138))), (10, (vI x137))]), [none, (some (.row 5 1 (List.map (cK .u8) []))), (some (.box 38 [(.own 1 0), (vI 0)])), none, none, (some (.box 26 [(vL Node.c r12.fG.fNodes), (vL Val.c r12.fG.fRoots)])), (some (.row 5 1 (List.map (cK .u8) x138)))]⟩) (f21_l126 r12 n (f21_k123 n)) h (wkm [4, 6, 7, 10] (wh_none (wh_keep (row_below cK_p _ _ _ _) (whk (wh_none (wh_none (whk (wh_keep (row_below cK_p _ _ _ _) wh_nil)))))))) (by intros; rw [f21_l126.eq_1]) ?_
       intro m126 x137 x138 h N126 w126
       rw [f21_l126.eq_2] at h
       refine s_seq fun N139 k139 w139 => ?_
       refine s_so fun N140 k140 w140 => ?_
       refine o_r3 [(69, (vI x137)), (70, (.ptr 5 1)), (71, (vL Val.c r12.fG.fRoots))] ?_
       refine o_o (one_len (f := Val.c) (l := r12.fG.fRoots)) ?_
       refine o_r1 [(73, (vB (decide (x137 < (len r12.fG.fRoots)))))] ?_
       refine o_end (k140 _ ?_)
       refine i_c [73] h (fun h => ?_) (fun h => ?_)
       · refine c_skip (k139 _ ?_)
         refine s_seq fun N143 k143 w143 => ?_
         refine c_block fun E144 hE144 hO144 => ?_
         refine c_ops ?_
         refine o_r4 [(76, (.own 6 (List.length x138))), (77, (.ptr 5 1)), (78, (vL Val.c r12.fG.fRoots)), (79, (vI x137))] ?_
         refine bnd h fun x145 g146 h => ?_
         refine o_o (one_ia (f := Val.c) (ki := .i64) g146) ?_
         refine o_r1 [(81, (.agg [(vI x145.fKind), (vI x145.fN)]))] ?_
         refine bnd h fun r147 g148 h => ?_
         refine o_x [none, (some (.row 5 1 (List.map (cK .u8) []))), (some (.box 38 [(.own 1 0), (vI 0)])), none, none, (some (.box 26 [(vL Node.c r12.fG.fNodes), (vL Val.c r12.fG.fRoots)])), (some (.row 5 1 (List.map (cK .u8) r147)))] (one_callH (caps := []) (q_f69 g148)) ?_
         refine o_r1 [(7, (.own 6 (List.length r147)))] ?_
         refine o_end (k143 _ ?_)
         refine c_ops ?_
         refine o_r3 [(10, (vI (wr .i64 (x137 + 1)))), (74, (vI x137)), (75, (vI (wr .i64 (x137 + 1))))] ?_
         exact o_end (w126 _ _ _ (wkm [4, 6, 7, 10] (wh_none (wh_keep (row_below cK_p _ _ _ _) (whk (wh_none (wh_none (whk (wh_keep (row_below cK_p _ _ _ _) wh_nil)))))))) h)
       · refine c_exit (hE125 _ ?_)
         exact w123 _ _ (wkm [4, 7] (wh_none (wh_keep (row_below cK_p _ _ _ _) (whk (wh_none (wh_none (wh_drop (wh_keep (row_below cK_p _ _ _ _) wh_nil)))))))) h
   · intro N18 w18
     refine s_so fun N19 k19 w19 => ?_
     refine o_r1 [(8, (vI 0))] ?_
     refine o_end (k19 _ ?_)
     refine c_block fun E20 hE20 hO20 => ?_
     refine W2 (fun (x69 : Int) (x70 : (List Int)) => ⟨(mkd .any 91 0 [(0, (vL Form.c a1)), (4, (.ptr 2 0)), (6, (.ptr 5 0)), (7, (.own 6 (List.length x70))), (8, (vI x69))]), [none, (some (.row 5 1 (List.map (cK .u8) []))), (some (.box 38 [(.own 1 0), (vI 0)])), none, none, (some (.box 26 [(vL Node.c r12.fG.fNodes), (vL Val.c r12.fG.fRoots)])), (some (.row 5 1 (List.map (cK .u8) x70)))]⟩) (f21_l21 r12 n a1 (f21_k18 n r12)) h (wkm [0, 4, 6, 7, 8] (wh_drop (wh_keep (row_below cK_p _ _ _ _) (whk (wh_drop (wh_drop (whk (wh_keep (row_below cK_p _ _ _ _) wh_nil)))))))) (by intros; rw [f21_l21.eq_1]) ?_
     intro m21 x69 x70 h N21 w21
     rw [f21_l21.eq_2] at h
     refine s_seq fun N71 k71 w71 => ?_
     refine s_so fun N72 k72 w72 => ?_
     refine o_r3 [(25, (vI x69)), (26, (.ptr 5 0)), (27, (vL Node.c r12.fG.fNodes))] ?_
     refine o_o (one_len (f := Node.c) (l := r12.fG.fNodes)) ?_
     refine o_r1 [(29, (vB (decide (x69 < (len r12.fG.fNodes)))))] ?_
     refine o_end (k72 _ ?_)
     refine i_c [29] h (fun h => ?_) (fun h => ?_)
     · refine c_skip (k71 _ ?_)
       refine J1 (r := r) (fun (x117 : (List Int)) => ⟨(mkd .any 91 0 [(0, (vL Form.c a1)), (4, (.ptr 2 0)), (6, (.ptr 5 0)), (7, (.own 6 (List.length x117))), (8, (vI x69))]), [none, (some (.row 5 1 (List.map (cK .u8) []))), (some (.box 38 [(.own 1 0), (vI 0)])), none, none, (some (.box 26 [(vL Node.c r12.fG.fNodes), (vL Val.c r12.fG.fRoots)])), (some (.row 5 1 (List.map (cK .u8) x117)))]⟩) (f21_k75 x69 (f21_l21 r12 n a1 (f21_k18 n r12) m21)) ?_ ?_
       · intro x117 h
         rw [f21_k75.eq_1] at h
         refine c_ops ?_
         refine o_r3 [(8, (vI (wr .i64 (x69 + 1)))), (30, (vI x69)), (31, (vI (wr .i64 (x69 + 1))))] ?_
         exact o_end (w21 _ _ _ (wkm [0, 4, 6, 7, 8] (wh_none (wh_keep (row_below cK_p _ _ _ _) (whk (wh_none (wh_none (whk (wh_keep (row_below cK_p _ _ _ _) wh_nil)))))))) h)
       · intro N75 w75
         refine c_block fun E76 hE76 hO76 => ?_
         refine s_so fun N77 k77 w77 => ?_
         refine o_r5 [(32, (.own 6 (List.length x70))), (33, (vL Form.c a1)), (34, (.ptr 5 0)), (35, (vL Node.c r12.fG.fNodes)), (36, (vI x69))] ?_
         refine bnd h fun x78 g79 h => ?_
         refine o_o (one_ia (f := Node.c) (ki := .i64) g79) ?_
         refine o_r2 [(38, (.iptr [(vS x78.fClass), (vL Val.c x78.fVals)])), (39, (vS x78.fClass))] ?_
         refine bnd h fun r80 g81 h => ?_
         refine o_o (one_call (p_f55 g81)) ?_
         refine bnd h fun r82 g83 h => ?_
         refine o_x [none, (some (.row 5 1 (List.map (cK .u8) []))), (some (.box 38 [(.own 1 0), (vI 0)])), none, none, (some (.box 26 [(vL Node.c r12.fG.fNodes), (vL Val.c r12.fG.fRoots)])), (some (.row 5 1 (List.map (cK .u8) r82)))] (one_callH (caps := []) (q_f68_b g83)) ?_
         refine o_r1 [(7, (.own 6 (List.length r82)))] ?_
         refine o_end (k77 _ ?_)
         refine s_so fun N84 k84 w84 => ?_
         refine o_r1 [(9, (vI 0))] ?_
         refine o_end (k84 _ ?_)
         refine c_block fun E85 hE85 hO85 => ?_
         refine W2 (fun (x101 : Int) (x102 : (List Int)) => ⟨(mkd .any 91 0 [(0, (vL Form.c a1)), (4, (.ptr 2 0)), (6, (.ptr 5 0)), (7, (.own 6 (List.length x102))), (8, (vI x69)), (9, (vI x101))]), [none, (some (.row 5 1 (List.map (cK .u8) []))), (some (.box 38 [(.own 1 0), (vI 0)])), none, none, (some (.box 26 [(vL Node.c r12.fG.fNodes), (vL Val.c r12.fG.fRoots)])), (some (.row 5 1 (List.map (cK .u8) x102)))]⟩) (f21_l86 r12 x69 n (f21_k75 x69 (f21_l21 r12 n a1 (f21_k18 n r12) m21))) h (wkm [0, 4, 6, 7, 8, 9] (wh_none (wh_keep (row_below cK_p _ _ _ _) (whk (wh_none (wh_none (whk (wh_keep (row_below cK_p _ _ _ _) wh_nil)))))))) (by intros; rw [f21_l86.eq_1]) ?_
         intro m86 x101 x102 h N86 w86
         rw [f21_l86.eq_2] at h
         refine s_seq fun N103 k103 w103 => ?_
         refine s_so fun N104 k104 w104 => ?_
         refine o_r4 [(42, (vI x101)), (43, (.ptr 5 0)), (44, (vL Node.c r12.fG.fNodes)), (45, (vI x69))] ?_
         refine bnd h fun x105 g106 h => ?_
         refine o_o (one_ia (f := Node.c) (ki := .i64) g106) ?_
         refine o_r2 [(47, (.iptr [(vL Val.c x105.fVals)])), (48, (vL Val.c x105.fVals))] ?_
         refine o_o (one_len (f := Val.c) (l := x105.fVals)) ?_
         refine o_r1 [(50, (vB (decide (x101 < (len x105.fVals)))))] ?_
         refine o_end (k104 _ ?_)
         refine i_c [50] h (fun h => ?_) (fun h => ?_)
         · refine c_skip (k103 _ ?_)
           refine s_seq fun N109 k109 w109 => ?_
           refine c_block fun E110 hE110 hO110 => ?_
           refine c_ops ?_
           refine o_r4 [(53, (.own 6 (List.length x102))), (54, (.ptr 5 0)), (55, (vL Node.c r12.fG.fNodes)), (56, (vI x69))] ?_
           refine bnd h fun x111 g112 h => ?_
           refine o_o (one_ia (f := Node.c) (ki := .i64) g112) ?_
           refine o_r3 [(58, (.iptr [(vL Val.c x111.fVals)])), (59, (vL Val.c x111.fVals)), (60, (vI x101))] ?_
           refine bnd h fun x113 g114 h => ?_
           refine o_o (one_ia (f := Val.c) (ki := .i64) g114) ?_
           refine o_r1 [(62, (.agg [(vI x113.fKind), (vI x113.fN)]))] ?_
           refine bnd h fun r115 g116 h => ?_
           refine o_x [none, (some (.row 5 1 (List.map (cK .u8) []))), (some (.box 38 [(.own 1 0), (vI 0)])), none, none, (some (.box 26 [(vL Node.c r12.fG.fNodes), (vL Val.c r12.fG.fRoots)])), (some (.row 5 1 (List.map (cK .u8) r115)))] (one_callH (caps := []) (q_f69 g116)) ?_
           refine o_r1 [(7, (.own 6 (List.length r115)))] ?_
           refine s_tm (mkd .any 91 0 [(0, (vL Form.c a1)), (4, (.ptr 2 0)), (6, (.ptr 5 0)), (7, (.own 6 (List.length r115))), (8, (vI x69)), (9, (vI x101)), (42, (vI x101)), (43, (.ptr 5 0)), (44, (vL Node.c r12.fG.fNodes)), (45, (vI x69)), (46, (.iptr [(vS x105.fClass), (vL Val.c x105.fVals)])), (47, (.iptr [(vL Val.c x105.fVals)])), (48, (vL Val.c x105.fVals)), (49, (vI (len x105.fVals))), (50, (vB true)), (53, (.own 6 (List.length x102))), (54, (.ptr 5 0)), (55, (vL Node.c r12.fG.fNodes)), (56, (vI x69)), (57, (.iptr [(vS x111.fClass), (vL Val.c x111.fVals)])), (58, (.iptr [(vL Val.c x111.fVals)])), (59, (vL Val.c x111.fVals)), (60, (vI x101)), (61, (.iptr [(vI x113.fKind), (vI x113.fN)])), (62, (.agg [(vI x113.fKind), (vI x113.fN)])), (63, (.own 6 (List.length r115)))]) ?_
           refine o_end (w109 _ ⟨(mkd .any 91 0 [(0, (vL Form.c a1)), (4, (.ptr 2 0)), (6, (.ptr 5 0)), (7, (.own 6 (List.length r115))), (8, (vI x69)), (9, (vI x101))]), [none, (some (.row 5 1 (List.map (cK .u8) []))), (some (.box 38 [(.own 1 0), (vI 0)])), none, none, (some (.box 26 [(vL Node.c r12.fG.fNodes), (vL Val.c r12.fG.fRoots)])), (some (.row 5 1 (List.map (cK .u8) r115)))]⟩ (wkm [0, 4, 6, 7, 8, 9] (wh_none (wh_keep (row_below cK_p _ _ _ _) (whk (wh_none (wh_none (whk (wh_keep (row_below cK_p _ _ _ _) wh_nil)))))))) ?_)
           refine c_ops ?_
           refine o_r3 [(9, (vI (wr .i64 (x101 + 1)))), (51, (vI x101)), (52, (vI (wr .i64 (x101 + 1))))] ?_
           exact o_end (w86 _ _ _ (wkm [0, 4, 6, 7, 8, 9] (wh_none (wh_keep (row_below cK_p _ _ _ _) (whk (wh_none (wh_none (whk (wh_keep (row_below cK_p _ _ _ _) wh_nil)))))))) h)
         · refine c_exit (hE85 _ ?_)
           exact w75 _ _ (wkm [0, 4, 6, 7, 8] (wh_none (wh_keep (row_below cK_p _ _ _ _) (whk (wh_none (wh_none (whk (wh_keep (row_below cK_p _ _ _ _) wh_nil)))))))) h
     · refine c_exit (hE20 _ ?_)
       exact w18 _ _ (wkm [4, 6, 7] (wh_none (wh_keep (row_below cK_p _ _ _ _) (whk (wh_none (wh_none (whk (wh_keep (row_below cK_p _ _ _ _) wh_nil)))))))) h
theorem ic4 : fnIC Try.prog H0 4 = some ([.tmp 4], 41, (.seq (.ops [zO 3 (.box 0 26 [(0, 57, 2, 0), (1, 59, 2, 0)] (.t 1)), zO 4 (.mov (.c (.bool false)))]) (.seq (.seq (.ops [zM 8 0, zO 9 (.call 13 [(.t 8)]), zO 10 (.sc (.un .not) [(.t 9)]), zM 11 10, zG 12 11 false (.ld (.t 3) 2 true), zG 13 11 false (.call 14 [(.t 12)]), zG 14 11 false (.sc (.un .not) [(.t 13)]), zO 15 (.pick (.t 11) (.c (.bool true)) (.t 14))]) (.cond (.t 15)
  (.seq (.ops [zO 16 (.call 15 []), zM 4 16]) .ret)
  .skip)) (.seq (.ops [zM 18 0, zO 19 (.ld (.t 3) 2 true), zO 20 (.call 20 [(.t 18), (.t 19)]), zM 17 20, zO 21 (.ext (.t 17) 0), zO 22 (.ext (.t 17) 1), zM 5 21, zM 6 22]) (.seq (.ops [zM 23 0, zO 24 (.ld (.t 3) 2 true), zO 25 (.call 21 [(.t 23), (.t 24)]), zO 7 (.alloc 0 38 [(0, 5, 1, 0)] [(.slice none 0 0), (.int .i64 0)]), zU (.st true 2 [(0, 5, 1, 0)] (.t 7) (.t 25))]) (.seq (.ops [zO 26 (.call 15 []), zM 27 26, zN 28 27 true 5, zG 29 27 true (.bstr (.t 28)), zG 30 27 true (.faddr (.t 7) 0), zG 31 27 true (.ld (.t 30) 1 false), zG 32 27 true (.bstr (.t 31)), zG 33 27 true (.sc (.bin .eql 9) [(.t 29), (.t 32)]), zO 34 (.pick (.t 27) (.t 33) (.c (.bool false))), zM 35 34, zN 36 35 true 6, zG 37 35 true (.faddr (.t 7) 1), zG 38 35 true (.ld (.t 37) 1 false), zG 39 35 true (.sc (.bin .eql 30) [(.t 36), (.t 38)]), zO 40 (.pick (.t 35) (.t 39) (.c (.bool false))), zM 4 40]) .ret)))))) := by kernel_rfl
def f4_k22 (x30 : Bool) : Option Bool := some x30
def f4_k5 (n : Nat) (a1 : (List Form)) (a2 : Graph) (x11 : Bool) : Option Bool := (bif x11 then ((f15 40).bind fun r14 => some r14) else ((f20 n a1 a2).bind fun r17 => ((f21 n a1 a2).bind fun r20 => ((f15 40).bind fun r23 => (bif r23 then (bif (sEqF (bytesOf r17.1) (bytesOf r20.fB)) then (f4_k22 (r17.2 == r20.fE)) else (f4_k22 false)) else (f4_k22 false))))))
def f4 (n : Nat) (a1 : (List Form)) (a2 : Graph) : Option Bool := ((f13 n a1).bind fun r6 => (bif (!r6) then (f4_k5 n a1 a2 true) else ((f14 n a2).bind fun r9 => (f4_k5 n a1 a2 (!r9)))))
def f4_r (r : Bool) : AV := (vB r)
theorem p_f4 {n : Nat} {a1 : (List Form)} {a2 : Graph} {r : Bool} (h : f4 n a1 a2 = some r) : PureSpec Try.prog 4 [(vL Form.c a1), (.agg [(vL Node.c a2.fNodes), (vL Val.c a2.fRoots)])] (f4_r r) := by
 rw [f4.eq_1] at h
 refine pure_of hmix ic4 ?_
 refine go_to (mkd (.val undef) 41 0 [(0, (vL Form.c a1)), (1, (.agg [(vL Node.c a2.fNodes), (vL Val.c a2.fRoots)]))]) ?_
 refine s_so fun N3 k3 w3 => ?_
 refine o_h2 [(3, (.ptr 0 0)), (4, (vB false))] [(some (.box 26 [(vL Node.c a2.fNodes), (vL Val.c a2.fRoots)]))] ?_
 refine o_end (k3 _ ?_)
 refine s_seq fun N4 k4 w4 => ?_
 refine J1 (r := r) (fun (x11 : Bool) => ⟨(mkd .any 41 0 [(0, (vL Form.c a1)), (3, (.ptr 0 0)), (15, (vB x11))]), [(some (.box 26 [(vL Node.c a2.fNodes), (vL Val.c a2.fRoots)]))]⟩) (f4_k5 n a1 a2) ?_ ?_
 · intro x11 h
   rw [f4_k5.eq_1] at h
   refine i_c [15] h (fun h => ?_) (fun h => ?_)
   · refine s_so fun N13 k13 w13 => ?_
     refine bnd h fun r14 g15 h => ?_
     refine o_o (one_call (p_f15 g15)) ?_
     refine o_r1 [(4, (vB r14))] ?_
     refine o_end (k13 _ ?_)
     exact c_ret (rets [] [(vB r14)] [(vB r14)] h)
   · refine c_skip (k4 _ ?_)
     refine s_so fun N16 k16 w16 => ?_
     refine o_r2 [(18, (vL Form.c a1)), (19, (.agg [(vL Node.c a2.fNodes), (vL Val.c a2.fRoots)]))] ?_
     refine bnd h fun r17 g18 h => ?_
     refine o_o (one_call (p_f20 g18)) ?_
     refine o_r5 [(5, (vL (cK .u8) r17.1)), (6, (vI r17.2)), (17, (.tup [(vL (cK .u8) r17.1), (vI r17.2)])), (21, (vL (cK .u8) r17.1)), (22, (vI r17.2))] ?_
     refine o_end (k16 _ ?_)
     refine s_so fun N19 k19 w19 => ?_
     refine o_r2 [(23, (vL Form.c a1)), (24, (.agg [(vL Node.c a2.fNodes), (vL Val.c a2.fRoots)]))] ?_
     refine bnd h fun r20 g21 h => ?_
     refine o_o (one_call (p_f21 g21)) ?_
     refine o_h2 [(7, (.ptr 2 0))] [(some (.box 26 [(vL Node.c a2.fNodes), (vL Val.c a2.fRoots)])), (some (.row 5 1 (List.map (cK .u8) []))), (some (.box 38 [(vL (cK .u8) r20.fB), (vI r20.fE)]))] ?_
     refine o_end (k19 _ ?_)
     refine J1 (r := r) (fun (x30 : Bool) => ⟨(mkd .any 41 0 [(4, (vB x30))]), []⟩) (f4_k22) ?_ ?_
     · intro x30 h
       rw [f4_k22.eq_1] at h
       exact c_ret (rets [] [(vB x30)] [(vB x30)] h)
     · intro N22 w22
       refine c_ops ?_
       refine bnd h fun r23 g24 h => ?_
       refine o_o (one_call (p_f15 g24)) ?_
       refine o_r1 [(27, (vB r23))] ?_
       refine i_o [26, 27] h (fun h => ?_) (fun h => ?_)
       · refine o_r1 [(28, (vL (cK .u8) r17.1))] ?_
         refine o_g ?_
         refine o_o (one_bstr (l := r17.1)) ?_
         refine o_r2 [(30, (.ptr 2 0)), (31, (vL (cK .u8) r20.fB))] ?_
         refine s_tm (mkd .any 41 0 [(0, (vL Form.c a1)), (3, (.ptr 0 0)), (5, (vL (cK .u8) r17.1)), (6, (vI r17.2)), (7, (.ptr 2 0)), (15, (vB false)), (17, (.tup [(vL (cK .u8) r17.1), (vI r17.2)])), (18, (vL Form.c a1)), (19, (.agg [(vL Node.c a2.fNodes), (vL Val.c a2.fRoots)])), (20, (.tup [(vL (cK .u8) r17.1), (vI r17.2)])), (21, (vL (cK .u8) r17.1)), (22, (vI r17.2)), (23, (vL Form.c a1)), (24, (.agg [(vL Node.c a2.fNodes), (vL Val.c a2.fRoots)])), (25, (.agg [(vL (cK .u8) r20.fB), (vI r20.fE)])), (26, (vB true)), (27, (vB true)), (28, (vL (cK .u8) r17.1)), (29, (vS (bytesOf r17.1))), (30, (.ptr 2 0)), (31, (vL (cK .u8) r20.fB))]) ?_
         refine o_g ?_
         refine o_o (one_bstr (l := r20.fB)) ?_
         refine o_g ?_
         refine o_o (one_sc (vs := [.string (bytesOf r17.1), .string (bytesOf r20.fB)]) (str_eql (bytesOf r17.1) (bytesOf r20.fB))) ?_
         refine o_r2 [(34, (vB (sEqF (bytesOf r17.1) (bytesOf r20.fB)))), (35, (vB (sEqF (bytesOf r17.1) (bytesOf r20.fB))))] ?_
         refine i_o [33, 34, 35] h (fun h => ?_) (fun h => ?_)
         · refine o_r6 [(4, (vB (r17.2 == r20.fE))), (36, (vI r17.2)), (37, (.ptr 2 1)), (38, (vI r20.fE)), (39, (vB (r17.2 == r20.fE))), (40, (vB (r17.2 == r20.fE)))] ?_
           exact o_end (w22 _ _ (wkm [4] wh_nil) h)
         · refine o_r6 [(4, (vB false)), (36, (.val undef)), (37, (.val undef)), (38, (.val undef)), (39, (.val undef)), (40, (vB false))] ?_
           exact o_end (w22 _ _ (wkm [4] wh_nil) h)
       · refine o_r14 [(4, (vB false)), (28, (.val undef)), (29, (.val undef)), (30, (.val undef)), (31, (.val undef)), (32, (.val undef)), (33, (.val undef)), (34, (vB false)), (35, (vB false)), (36, (.val undef)), (37, (.val undef)), (38, (.val undef)), (39, (.val undef)), (40, (vB false))] ?_
         exact o_end (w22 _ _ (wkm [4] wh_nil) h)
 · intro N5 w5
   refine c_ops ?_
   refine o_r1 [(8, (vL Form.c a1))] ?_
   refine bnd h fun r6 g7 h => ?_
   refine o_o (one_call (p_f13 g7)) ?_
   refine o_r2 [(10, (vB (!r6))), (11, (vB (!r6)))] ?_
   refine i_o [10, 11] h (fun h => ?_) (fun h => ?_)
   · refine o_r4 [(12, (.val undef)), (13, (.val undef)), (14, (.val undef)), (15, (vB true))] ?_
     exact o_end (w5 _ _ (wkm [0, 3, 15] (whk wh_nil)) h)
   · refine o_r1 [(12, (.agg [(vL Node.c a2.fNodes), (vL Val.c a2.fRoots)]))] ?_
     refine bnd h fun r9 g10 h => ?_
     refine o_g ?_
     refine o_o (one_call (p_f14 g10)) ?_
     refine o_r2 [(14, (vB (!r9))), (15, (vB (!r9)))] ?_
     exact o_end (w5 _ _ (wkm [0, 3, 15] (whk wh_nil)) h)
end Go.Proofs
end
section
namespace Go.Vm
theorem wr_id {x : Int} (h1 : -9223372036854775808 ≤ x) (h2 : x < 9223372036854775808) : wr .i64 x = x := by
  unfold wr IntKind.wrap
  simp [IntKind.bits, IntKind.signed]
  omega
theorem gi_nat {α : Type} (l : List α) (k : Nat) : gi l (k : Int) = l[k]? := rfl
section
variable {α σ ρ : Type}
def go0 (B : Int → α → Option ρ → Option ρ) (K : Option ρ) : List α → Nat → Option ρ
  | [], _ => K
  | y :: l, k => B k y (go0 B K l (k + 1))
theorem scan0 (l : List α) (K : Option ρ) (B : Int → α → Option ρ → Option ρ) (L : Nat → Int → Option ρ)
    (hL : ∀ m x, L (m + 1) x = bif decide (x < len l) then (gi l x).bind fun y => B x y (L m (wr .i64 (x + 1))) else K) (hl : l.length < 4611686018427387904) :
    ∀ (d k m : Nat), d + k = l.length → d < m → L m k = go0 B K (l.drop k) k
  | 0, k, m, hk, hm => by
    obtain ⟨m, rfl⟩ := Nat.exists_eq_succ_of_ne_zero (by omega : m ≠ 0)
    have : l.drop k = [] := List.drop_eq_nil_of_le (by omega)
    rw [hL, this]
    have hd : decide ((k : Int) < len l) = false := by simp [len]; omega
    rw [hd]; rfl
  | d + 1, k, m, hk, hm => by
    obtain ⟨m, rfl⟩ := Nat.exists_eq_succ_of_ne_zero (by omega : m ≠ 0)
    have hlt : k < l.length := by omega
    rw [hL]
    have hd : decide ((k : Int) < len l) = true := by simp [len]; omega
    rw [hd, gi_nat, List.getElem?_eq_getElem hlt, List.drop_eq_getElem_cons hlt]
    simp only [cond_true, Option.bind_some, go0]
    rw [wr_id (by omega) (by omega)]
    have := scan0 l K B L hL hl d (k + 1) m (by omega) (by omega)
    push_cast at this
    rw [this]
def ixOf (p : α → Bool) : List α → Nat → Int
  | [], _ => -1
  | y :: l, k => bif p y then (k : Int) else ixOf p l (k + 1)
theorem go0_ix (p : α → Bool) (f : Int → ρ) : ∀ (l : List α) (k : Nat), go0 (fun x y acc => bif p y then some (f x) else acc) (some (f (-1))) l k = some (f (ixOf p l k))
  | [], k => rfl
  | y :: l, k => by
    simp only [go0, ixOf]
    cases p y
    · exact go0_ix p f l (k + 1)
    · rfl
end
end Go.Vm
end
section
namespace Go.Proofs
open Go.Vm
section
variable {σ ρ : Type}
theorem loopT {N : Nat} (L : Nat → Int → σ → Option ρ) (K : σ → Option ρ) (S : Nat → σ)
    (hs : ∀ m (k : Nat), k < N → L (m + 1) k (S k) = L m ((k + 1 : Nat) : Int) (S (k + 1))) (he : ∀ m, L (m + 1) N (S N) = K (S N)) :
    ∀ (d k n : Nat), d + k = N → d < n → L n k (S k) = K (S N)
  | 0, k, n, hk, hn => by
    obtain ⟨n, rfl⟩ := Nat.exists_eq_succ_of_ne_zero (by omega : n ≠ 0)
    have : k = N := by omega
    subst this
    exact he _
  | d + 1, k, n, hk, hn => by
    obtain ⟨n, rfl⟩ := Nat.exists_eq_succ_of_ne_zero (by omega : n ≠ 0)
    rw [hs n k (by omega)]
    exact loopT L K S hs he d (k + 1) n (by omega) (by omega)
end
theorem lt_len {α : Type} {l : List α} {k : Nat} (h : k < l.length) : decide ((k : Int) < len l) = true := by simp [len]; omega
theorem ge_len {α : Type} {l : List α} : decide ((l.length : Int) < len l) = false := by simp [len]
theorem wr_succ {k : Nat} (h : k < 4611686018427387904) : wr .i64 ((k : Int) + 1) = ((k + 1 : Nat) : Int) := by rw [wr_id (by omega) (by omega)]; omega
theorem gi_get {α : Type} {l : List α} {k : Nat} (h : k < l.length) : gi l (k : Int) = some l[k] := by rw [gi_nat, List.getElem?_eq_getElem h]
theorem gi_of {α : Type} {l : List α} {y : Int} (h0 : 0 ≤ y) : gi l y = l[y.toNat]? := by
  obtain ⟨k, rfl⟩ := Int.eq_ofNat_of_zero_le h0
  rw [gi_nat]; rfl
def ixI (o : List Int) (y : Int) : Int := bif o.contains y then (o.idxOf y : Int) else -1
def meetY (o : List Int) (y : Int) : List Int := bif o.contains y then o else o ++ [y]
def meetL (o : List Int) (l : List Val) : List Int := (refsOf l).foldl meetY o
def nodeAt (g : Graph) (y : Int) : Node := (g.fNodes[y.toNat]?).getD ⟨⟨#[]⟩, []⟩
def walkR (g : Graph) : Nat → Nat → List Int → List Int
  | 0, _, o => o
  | f + 1, i, o => match o[i]? with
    | some y => walkR g f (i + 1) (meetL o (nodeAt g y).fVals)
    | none => o
def orderR (g : Graph) : List Int := walkR g (g.fNodes.length + 1) 0 (meetL [] g.fRoots)
def mvR (o : List Int) (v : Val) : Val := ⟨v.fKind, bif v.fKind == 4 then ixI o v.fN else v.fN⟩
def nodeR (g : Graph) (o : List Int) (y : Int) : Node := ⟨(nodeAt g y).fClass, (nodeAt g y).fVals.map (mvR o)⟩
def canG (g : Graph) : Graph := ⟨(orderR g).map (nodeR g (orderR g)), g.fRoots.map (mvR (orderR g))⟩
def atL (N : Nat) (o : List Int) : List Int := (List.range N).map fun i => ixI o (i : Nat)
def canAt (g : Graph) : List Int := atL g.fNodes.length (orderR g)
structure OrdOk (N : Nat) (o : List Int) : Prop where
  nd : o.Nodup
  rg : ∀ y ∈ o, 0 ≤ y ∧ y < (N : Int)
theorem OrdOk.nil (N : Nat) : OrdOk N [] := ⟨List.nodup_nil, fun y h => by cases h⟩
theorem nodup_len : ∀ (N : Nat) (o : List Int), o.Nodup → (∀ y ∈ o, 0 ≤ y ∧ y < (N : Int)) → o.length ≤ N
  | 0, o, _, h => by
    cases o with
    | nil => exact Nat.le_refl _
    | cons y o => have := h y (by simp); omega
  | N + 1, o, hd, h => by
    by_cases hm : (N : Int) ∈ o
    · have h1 := nodup_len N (o.erase N) (hd.erase _) (fun y hy => by
        obtain ⟨h2, h3⟩ := (hd.mem_erase_iff).1 hy
        have := h y h3
        omega)
      rw [List.length_erase_of_mem hm] at h1
      omega
    · have := nodup_len N o hd (fun y hy => by
        have h1 := h y hy
        have : y ≠ (N : Int) := fun e => hm (e ▸ hy)
        omega)
      omega
theorem OrdOk.len {N : Nat} {o : List Int} (h : OrdOk N o) : o.length ≤ N := nodup_len N o h.nd h.rg
theorem contains_iff {o : List Int} {y : Int} : o.contains y = true ↔ y ∈ o := by simp
theorem OrdOk.meetY {N : Nat} {o : List Int} {y : Int} (h : OrdOk N o) (hy : 0 ≤ y ∧ y < (N : Int)) : OrdOk N (meetY o y) := by
  unfold Proofs.meetY
  cases hc : o.contains y with
  | true => exact h
  | false =>
    have hm : y ∉ o := fun hm => by rw [contains_iff.2 hm] at hc; cases hc
    refine ⟨?_, fun z hz => ?_⟩
    · rw [cond_false, List.nodup_append]
      exact ⟨h.nd, by simp, fun a ha b hb e => hm (by simp at hb; rw [← hb, ← e]; exact ha)⟩
    · rw [cond_false] at hz
      rcases List.mem_append.1 hz with hz | hz
      · exact h.rg z hz
      · simp at hz; rw [hz]; exact hy
theorem meetY_pre (o : List Int) (y : Int) : o <+: meetY o y := by
  unfold meetY
  cases o.contains y with
  | true => exact List.prefix_refl _
  | false => exact List.prefix_append _ _
theorem meetY_mem (o : List Int) (y : Int) : y ∈ meetY o y := by
  unfold meetY
  cases hc : o.contains y with
  | true => exact contains_iff.1 hc
  | false => simp
def RefOk (N : Nat) (l : List Val) : Prop := ∀ y ∈ refsOf l, 0 ≤ y ∧ y < (N : Int)
theorem foldY_ok {N : Nat} : ∀ (l : List Int) {o : List Int}, OrdOk N o → (∀ y ∈ l, 0 ≤ y ∧ y < (N : Int)) → OrdOk N (l.foldl meetY o)
  | [], o, h, _ => h
  | y :: l, o, h, hl => foldY_ok l (h.meetY (hl y (by simp))) (fun z hz => hl z (by simp [hz]))
theorem foldY_pre : ∀ (l o : List Int), o <+: l.foldl meetY o
  | [], o => List.prefix_refl _
  | y :: l, o => (meetY_pre o y).trans (foldY_pre l _)
theorem foldY_mem : ∀ (l o : List Int) (y : Int), y ∈ l → y ∈ l.foldl meetY o
  | x :: l, o, y, h => by
    rcases List.mem_cons.1 h with rfl | h
    · exact (foldY_pre l _).subset (meetY_mem o y)
    · exact foldY_mem l _ y h
theorem OrdOk.meetL {N : Nat} {o : List Int} {l : List Val} (h : OrdOk N o) (hl : RefOk N l) : OrdOk N (meetL o l) := foldY_ok _ h hl
theorem meetL_pre (o : List Int) (l : List Val) : o <+: meetL o l := foldY_pre _ _
theorem meetL_mem (o : List Int) (l : List Val) : ∀ y ∈ refsOf l, y ∈ meetL o l := fun y h => foldY_mem _ _ y h
structure GraphOk (g : Graph) : Prop where
  rt : RefOk g.fNodes.length g.fRoots
  nd : ∀ x ∈ g.fNodes, RefOk g.fNodes.length x.fVals
theorem nodeAt_mem {g : Graph} {y : Int} (h : 0 ≤ y ∧ y < (g.fNodes.length : Int)) : g.fNodes[y.toNat]? = some (nodeAt g y) ∧ nodeAt g y ∈ g.fNodes := by
  have hlt : y.toNat < g.fNodes.length := by omega
  have e : g.fNodes[y.toNat]? = some (nodeAt g y) := by unfold nodeAt; rw [List.getElem?_eq_getElem hlt]; rfl
  exact ⟨e, List.mem_of_getElem? e⟩
theorem gi_node {g : Graph} {y : Int} (h : 0 ≤ y ∧ y < (g.fNodes.length : Int)) : gi g.fNodes y = some (nodeAt g y) := by rw [gi_of h.1]; exact (nodeAt_mem h).1
theorem GraphOk.vals {g : Graph} (h : GraphOk g) {y : Int} (hy : 0 ≤ y ∧ y < (g.fNodes.length : Int)) : RefOk g.fNodes.length (nodeAt g y).fVals := h.nd _ (nodeAt_mem hy).2
def Closed (g : Graph) (i : Nat) (o : List Int) : Prop := ∀ (j : Nat) (y : Int), j < i → o[j]? = some y → ∀ r ∈ refsOf (nodeAt g y).fVals, r ∈ o
theorem pre_get {α : Type} {o o' : List α} (h : o <+: o') {j : Nat} (hj : j < o.length) : o'[j]? = o[j]? := by
  obtain ⟨t, rfl⟩ := h
  exact List.getElem?_append_left hj
theorem walkR_spec {g : Graph} (hg : GraphOk g) : ∀ (f i : Nat) (o : List Int), OrdOk g.fNodes.length o → i ≤ o.length → g.fNodes.length + 1 ≤ f + i → Closed g i o →
    OrdOk g.fNodes.length (walkR g f i o) ∧ o <+: walkR g f i o ∧ Closed g (walkR g f i o).length (walkR g f i o)
  | 0, i, o, ho, hi, hf, hc => by have := ho.len; omega
  | f + 1, i, o, ho, hi, hf, hc => by
    unfold walkR
    split
    · rename_i y hy
      have hym := List.mem_of_getElem? hy
      have hyr := ho.rg y hym
      have hlt := (List.getElem?_eq_some_iff.1 hy).1
      have hp := meetL_pre o (nodeAt g y).fVals
      have hl := hp.length_le
      obtain ⟨h1, h2, h3⟩ := walkR_spec hg f (i + 1) (meetL o (nodeAt g y).fVals) (ho.meetL (hg.vals hyr)) (by omega) (by omega) (fun j z hj hz r hr => by
        rw [pre_get hp (by omega)] at hz
        by_cases hji : j = i
        · subst hji
          rw [hy] at hz
          simp only [Option.some.injEq] at hz
          subst hz
          exact meetL_mem _ _ r hr
        · exact hp.subset (hc j z (by omega) hz r hr))
      exact ⟨h1, hp.trans h2, h3⟩
    · rename_i hy
      have : o.length ≤ i := by
        rcases Nat.lt_or_ge i o.length with h | h
        · rw [List.getElem?_eq_getElem h] at hy; cases hy
        · exact h
      have : i = o.length := by omega
      subst this
      exact ⟨ho, List.prefix_refl _, hc⟩
theorem orderR_spec {g : Graph} (hg : GraphOk g) : OrdOk g.fNodes.length (orderR g) ∧ (∀ r ∈ refsOf g.fRoots, r ∈ orderR g) ∧ ∀ y ∈ orderR g, ∀ r ∈ refsOf (nodeAt g y).fVals, r ∈ orderR g := by
  obtain ⟨h1, h2, h3⟩ := walkR_spec hg (g.fNodes.length + 1) 0 (meetL [] g.fRoots) ((OrdOk.nil _).meetL hg.rt) (Nat.zero_le _) (by omega) (fun j y hj => by omega)
  refine ⟨h1, fun r hr => h2.subset (meetL_mem _ _ r hr), fun y hy r hr => ?_⟩
  obtain ⟨j, hj, e⟩ := List.getElem_of_mem hy
  exact h3 j y hj ((List.getElem?_eq_getElem (l := orderR g) hj).trans (congrArg some e)) r hr
theorem walkLoop {g : Graph} (hg : GraphOk g) {σ ρ : Type} (S : List Int → σ) (L : Nat → Int → σ → Option ρ) (K : σ → Option ρ)
    (hs : ∀ m (i : Nat) o y, OrdOk g.fNodes.length o → o[i]? = some y → L (m + 1) i (S o) = L m ((i + 1 : Nat) : Int) (S (meetL o (nodeAt g y).fVals)))
    (he : ∀ m o, OrdOk g.fNodes.length o → L (m + 1) o.length (S o) = K (S o)) :
    ∀ (f i n : Nat) (o : List Int), OrdOk g.fNodes.length o → i ≤ o.length → g.fNodes.length + 1 ≤ f + i → f < n → L n i (S o) = K (S (walkR g f i o))
  | 0, i, n, o, ho, hi, hf, hn => by have := ho.len; omega
  | f + 1, i, n, o, ho, hi, hf, hn => by
    obtain ⟨n, rfl⟩ := Nat.exists_eq_succ_of_ne_zero (by omega : n ≠ 0)
    unfold walkR
    split
    · rename_i y hy
      have hyr := ho.rg y (List.mem_of_getElem? hy)
      have hlt := (List.getElem?_eq_some_iff.1 hy).1
      have hl := (meetL_pre o (nodeAt g y).fVals).length_le
      rw [hs n i o y ho hy]
      exact walkLoop hg S L K hs he f (i + 1) n _ (ho.meetL (hg.vals hyr)) (by omega) (by omega) (by omega)
    · rename_i hy
      have : o.length ≤ i := by
        rcases Nat.lt_or_ge i o.length with h | h
        · rw [List.getElem?_eq_getElem h] at hy; cases hy
        · exact h
      have : i = o.length := by omega
      subst this
      exact he n o ho
def mapFrom : Nat → List Int → List (Int × Int)
  | _, [] => []
  | k, y :: o => (y, (k : Int)) :: mapFrom (k + 1) o
def mapOf (o : List Int) : List (Int × Int) := mapFrom 0 o
theorem mget_from (y : Int) : ∀ (k : Nat) (o : List Int), mget y (mapFrom k o) = bif o.contains y then some ((k + o.idxOf y : Nat) : Int) else none
  | k, [] => rfl
  | k, x :: o => by
    simp only [mapFrom, mget, List.contains_cons]
    cases h : (y == x) with
    | true =>
      have : x = y := (eq_of_beq h).symm
      subst this
      simp
    | false =>
      have hne : ¬ x = y := fun e => by subst e; simp at h
      simp only [cond_false, Bool.false_or, mget_from y (k + 1) o, List.idxOf_cons]
      cases o.contains y with
      | true =>
        have : (x == y) = false := by simpa using hne
        simp only [cond_true, this, cond_false]
        congr 2
        omega
      | false => rfl
theorem mset_from (y v : Int) : ∀ (k : Nat) (o : List Int), o.contains y = false → mset y v (mapFrom k o) = mapFrom k o ++ [(y, v)]
  | k, [], _ => rfl
  | k, x :: o, h => by
    simp only [List.contains_cons, Bool.or_eq_false_iff] at h
    simp only [mapFrom, mset, h.1, cond_false, mset_from y v (k + 1) o h.2, List.cons_append]
theorem mapFrom_snoc (y : Int) : ∀ (k : Nat) (o : List Int), mapFrom k (o ++ [y]) = mapFrom k o ++ [(y, ((k + o.length : Nat) : Int))]
  | k, [] => rfl
  | k, x :: o => by
    simp only [List.cons_append, mapFrom, mapFrom_snoc y (k + 1) o, List.length_cons]
    congr 4
    omega
theorem mget_of (o : List Int) (y : Int) : mget y (mapOf o) = bif o.contains y then some ((o.idxOf y : Nat) : Int) else none := by
  unfold mapOf; rw [mget_from]; simp
theorem mset_of {o : List Int} {y : Int} (h : o.contains y = false) : mset y (len o) (mapOf o) = mapOf (o ++ [y]) := by
  unfold mapOf
  rw [mset_from y _ 0 o h, mapFrom_snoc]
  simp [len]
theorem mget_isSome (o : List Int) (y : Int) : (mget y (mapOf o)).isSome = o.contains y := by
  rw [mget_of]; cases o.contains y <;> rfl
theorem mget_ix {o : List Int} {y d : Int} (h : y ∈ o) : (mget y (mapOf o)).getD d = ixI o y := by
  unfold ixI
  rw [mget_of, contains_iff.2 h]; rfl
theorem atL_len (N : Nat) (o : List Int) : (atL N o).length = N := by simp [atL]
theorem atL_get {N : Nat} {o : List Int} {y : Int} (h : 0 ≤ y ∧ y < (N : Int)) : gi (atL N o) y = some (ixI o y) := by
  rw [gi_of h.1]
  unfold atL
  rw [List.getElem?_map, List.getElem?_range (by omega)]
  simp only [Option.map_some]
  congr 2
  omega
theorem ixI_nonneg {o : List Int} {y : Int} : decide (ixI o y ≥ 0) = o.contains y := by
  unfold ixI
  cases o.contains y <;> simp
theorem ixI_snoc {o : List Int} {y z : Int} (h : o.contains y = false) : ixI (o ++ [y]) z = bif z == y then (o.length : Int) else ixI o z := by
  unfold ixI
  have hy : y ∉ o := fun hm => by rw [contains_iff.2 hm] at h; cases h
  cases hz : (z == y) with
  | true =>
    have : z = y := eq_of_beq hz
    subst this
    rw [contains_iff.2 (by simp), List.idxOf_append, if_neg hy]
    simp
  | false =>
    have hne : z ≠ y := fun e => by subst e; simp at hz
    by_cases hm : z ∈ o
    · rw [contains_iff.2 hm, contains_iff.2 (by simp [hm]), List.idxOf_append, if_pos hm]; rfl
    · have h1 : o.contains z = false := by cases hc : o.contains z with | true => exact absurd (contains_iff.1 hc) hm | false => rfl
      have h2 : (o ++ [y]).contains z = false := by
        cases hc : (o ++ [y]).contains z with
        | true => exact absurd (contains_iff.1 hc) (by simp [hm, hne])
        | false => rfl
      rw [h1, h2]; rfl
theorem atL_set {N : Nat} {o : List Int} {y : Int} (hy : 0 ≤ y ∧ y < (N : Int)) (h : o.contains y = false) : setI (atL N o) y (len o) = atL N (o ++ [y]) := by
  unfold setI
  apply List.ext_getElem?
  intro i
  rw [List.getElem?_set]
  unfold atL
  rw [List.getElem?_map, List.getElem?_map]
  rcases Nat.lt_or_ge i N with hi | hi
  · rw [List.getElem?_range hi]
    simp only [Option.map_some, List.length_map, List.length_range]
    rw [ixI_snoc h]
    split
    · rename_i e
      rw [if_pos (by omega)]
      have : ((i : Int) == y) = true := by simp; omega
      rw [this]; rfl
    · rename_i e
      have : ((i : Int) == y) = false := by simp; omega
      rw [this]; rfl
  · rw [List.getElem?_eq_none (by simpa using hi)]
    simp only [Option.map_none, List.length_map, List.length_range]
    split
    · rw [if_neg (by omega)]
    · rfl
theorem atL_nil (N : Nat) : atL N [] = List.replicate N (-1) := by
  unfold atL
  apply List.ext_getElem?
  intro i
  rw [List.getElem?_map]
  rcases Nat.lt_or_ge i N with hi | hi
  · rw [List.getElem?_range hi, List.getElem?_replicate, if_pos hi]; rfl
  · rw [List.getElem?_eq_none (by simpa using hi), List.getElem?_eq_none (by simpa using hi)]; rfl
end Go.Proofs
end
section
namespace Go.Proofs
open Go.Vm
theorem app2_ok {α : Type} {l l2 : List α} (h : l.length + l2.length ≤ 4000000000) : app2 l l2 = some (l ++ l2) := app2_eq h
structure Sized (g : Graph) : Prop where
  nd : g.fNodes.length ≤ 400
  rt : g.fRoots.length ≤ 60
  vl : ∀ x ∈ g.fNodes, x.fVals.length ≤ 30
theorem refs_len (l : List Val) : (refsOf l).length ≤ l.length := by
  unfold refsOf
  rw [List.length_map]
  exact List.length_filter_le _ _
theorem foldB_meet {N : Nat} (hN : N ≤ 400) (B : Int → List (Int × Int) × List Int → Option (List (Int × Int) × List Int))
    (hB : ∀ y v, B y v = (bif !(mget y v.1).isSome then (app2 v.2 [y]).bind fun l => some (mset y (len v.2) v.1, l) else some (v.1, v.2))) :
    ∀ (l : List Int) (o : List Int), OrdOk N o → (∀ y ∈ l, 0 ≤ y ∧ y < (N : Int)) → foldB B l (mapOf o, o) = some (mapOf (l.foldl meetY o), l.foldl meetY o)
  | [], o, _, _ => rfl
  | y :: l, o, ho, hl => by
    have hlen := ho.len
    have h1 : B y (mapOf o, o) = some (mapOf (meetY o y), meetY o y) := by
      rw [hB]
      dsimp only
      rw [mget_isSome]
      unfold meetY
      cases hc : o.contains y with
      | true => rfl
      | false =>
        simp only [Bool.not_false, cond_true, cond_false]
        rw [app2_ok (by simp; omega), mset_of hc]; rfl
    simp only [foldB, h1, Option.bind_some, List.foldl_cons]
    exact foldB_meet hN B hB l _ (ho.meetY (hl y (by simp))) (fun z hz => hl z (by simp [hz]))
theorem f100_eq {N n : Nat} (hN : N ≤ 400) {l : List Val} {a1 : List Node} {a2 : List Val} {a3 o : List Int} {a6 : List Node} {a7 : List Val} (ho : OrdOk N o) (hl : RefOk N l) (hs : l.length ≤ 60) :
    f100 n a1 a2 a3 (mapOf o) o a6 a7 l = some (mapOf (meetL o l), meetL o l) := by
  have h1 := ho.len
  have h2 := refs_len l
  unfold f100 f101
  simp only [Option.bind_some]
  rw [show Nat.ble (o.length + (refsOf l).length) 1000000000 = true from Nat.ble_eq_true_of_le (by omega)]
  rw [foldB_meet hN f100_b13 (fun y v => rfl) (refsOf l) o ho hl]
  rfl
theorem f100_b_eq {N n : Nat} (hN : N ≤ 400) {l : List Val} {a1 : List Node} {a2 : List Val} {o : List Int} {a6 : List Node} {a7 : List Val} (ho : OrdOk N o) (hl : RefOk N l) (hs : l.length ≤ 60) :
    f100_b n a1 a2 (mapOf o) o a6 a7 l = some (mapOf (meetL o l), meetL o l) := by
  have h1 := ho.len
  have h2 := refs_len l
  unfold f100_b f101
  simp only [Option.bind_some]
  rw [show Nat.ble (o.length + (refsOf l).length) 1000000000 = true from Nat.ble_eq_true_of_le (by omega)]
  rw [foldB_meet hN f100_b_b12 (fun y v => rfl) (refsOf l) o ho hl]
  rfl
theorem f62_walk {g : Graph} (hg : GraphOk g) (hz : Sized g) {n : Nat} (hn : 500 < n) (K : List (Int × Int) → List Int → Option (Graph × List Int)) :
    f62_l13 g n K n 0 (mapOf (meetL [] g.fRoots)) (meetL [] g.fRoots) = K (mapOf (orderR g)) (orderR g) := by
  have hN := hz.nd
  refine walkLoop hg (fun o => (mapOf o, o)) (fun m i p => f62_l13 g n K m i p.1 p.2) (fun p => K p.1 p.2) (fun m i o y ho hy => ?_) (fun m o ho => ?_) (g.fNodes.length + 1) 0 n _ ((OrdOk.nil _).meetL hg.rt) (Nat.zero_le _) (by omega) (by omega)
  · have hlt := (List.getElem?_eq_some_iff.1 hy).1
    have hlen := ho.len
    have hyr := ho.rg y (List.mem_of_getElem? hy)
    show f62_l13 g n K (m + 1) (i : Int) (mapOf o) o = _
    rw [f62_l13.eq_2]
    rw [show ((i : Int) == len o) = false by simp [len]; omega, gi_nat, hy]
    simp only [cond_false, Option.bind_some]
    rw [gi_node hyr]
    simp only [Option.bind_some]
    rw [f100_b_eq hN ho (hg.vals hyr) (by have := hz.vl _ (nodeAt_mem hyr).2; omega), wr_succ (by omega)]
    rfl
  · show f62_l13 g n K (m + 1) (o.length : Int) (mapOf o) o = _
    rw [f62_l13.eq_2]
    rw [show ((o.length : Int) == len o) = true by simp [len]]
    rfl
theorem f102_round {o : List Int} {l : List Val} (hc : ∀ r ∈ refsOf l, r ∈ o) {k : Nat} (hk : k < l.length) :
    (l[k].fKind == 4) = true → (mget l[k].fN (mapOf o)).getD 0 = ixI o l[k].fN := fun h => by
  apply mget_ix
  apply hc
  unfold refsOf
  exact List.mem_map.2 ⟨l[k], List.mem_filter.2 ⟨List.getElem_mem hk, h⟩, rfl⟩
theorem half_get {α β : Type} {f : α → β} {l : List α} {l' : List β} {k : Nat} (hk : k < l.length) (hl : l'.length = l.length) : ((l.take k).map f ++ l'.drop k)[k]? = l'[k]? := by
  rw [List.getElem?_append_right (by simp; omega)]
  simp only [List.length_map, List.length_take, List.getElem?_drop]
  congr 1
  omega
theorem half_set {α : Type} {f : α → α} {l : List α} {k : Nat} (hk : k < l.length) : ((l.take k).map f ++ l.drop k).set k (f l[k]) = (l.take (k + 1)).map f ++ l.drop (k + 1) := by
  rw [List.set_append_right _ _ (by simp; omega)]
  simp only [List.length_map, List.length_take]
  rw [show k - min k l.length = 0 by omega, List.drop_eq_getElem_cons hk, List.set_cons_zero, List.take_add_one, List.getElem?_eq_getElem hk, List.map_append, List.append_assoc]
  rfl
theorem half_same {α : Type} {f : α → α} {l : List α} {k : Nat} (hk : k < l.length) (hf : f l[k] = l[k]) : (l.take k).map f ++ l.drop k = (l.take (k + 1)).map f ++ l.drop (k + 1) := by
  rw [← half_set hk, hf]
  symm
  apply set_same
  rw [half_get hk rfl, List.getElem?_eq_getElem hk]
theorem f102_eq {n : Nat} {o : List Int} {l : List Val} {a1 : List Node} {a2 : List Val} {a4 : List Int} {a5 : List Node} {a6 : List Val} (hc : ∀ r ∈ refsOf l, r ∈ o) (hl : l.length ≤ 60) (hn : 500 < n) :
    f102 n a1 a2 (mapOf o) a4 a5 a6 l = some (l.map (mvR o)) := by
  unfold f102
  rw [app2_ok (by simp; omega)]
  simp only [List.nil_append, Option.bind_some]
  have := loopT (N := l.length) (fun m k s => f102_l16 l (mapOf o) f102_k12 m k s) (fun s => some s) (fun k => (l.take k).map (mvR o) ++ l.drop k) (fun m k hk => ?_) (fun m => ?_) l.length 0 n (by omega) (by omega)
  · simpa using this
  · show f102_l16 l (mapOf o) f102_k12 (m + 1) (k : Int) _ = _
    rw [f102_l16.eq_2]
    have hg : gi ((l.take k).map (mvR o) ++ l.drop k) (k : Int) = some l[k] := by rw [gi_nat, half_get hk rfl, List.getElem?_eq_getElem hk]
    rw [lt_len hk, hg]
    simp only [cond_true, Option.bind_some, f102_k41]
    rw [wr_succ (by omega)]
    cases h4 : (l[k].fKind == 4) with
    | true =>
      simp only [cond_true]
      rw [f102_round hc hk h4]
      have : (⟨l[k].fKind, ixI o l[k].fN⟩ : Val) = mvR o l[k] := by unfold mvR; rw [h4]; rfl
      rw [this]
      unfold setI
      rw [Int.toNat_natCast, half_set hk]
    | false =>
      simp only [cond_false]
      rw [half_same hk]
      unfold mvR; rw [h4]; rfl
  · show f102_l16 l (mapOf o) f102_k12 (m + 1) (l.length : Int) _ = _
    rw [f102_l16.eq_2, ge_len]
    rfl
theorem f102_b_eq {n : Nat} {o : List Int} {l : List Val} {a1 : List Node} {a2 : List Val} {a4 : List Int} {a5 : List Val} {a6 a7 : List Node} {a8 : List Val} (hc : ∀ r ∈ refsOf l, r ∈ o) (hl : l.length ≤ 60) (hn : 500 < n) :
    f102_b n a1 a2 (mapOf o) a4 a5 a6 a7 a8 l = some (l.map (mvR o)) := by
  unfold f102_b
  rw [app2_ok (by simp; omega)]
  simp only [List.nil_append, Option.bind_some]
  have := loopT (N := l.length) (fun m k s => f102_b_l18 l (mapOf o) f102_b_k14 m k s) (fun s => some s) (fun k => (l.take k).map (mvR o) ++ l.drop k) (fun m k hk => ?_) (fun m => ?_) l.length 0 n (by omega) (by omega)
  · simpa using this
  · show f102_b_l18 l (mapOf o) f102_b_k14 (m + 1) (k : Int) _ = _
    rw [f102_b_l18.eq_2]
    have hg : gi ((l.take k).map (mvR o) ++ l.drop k) (k : Int) = some l[k] := by rw [gi_nat, half_get hk rfl, List.getElem?_eq_getElem hk]
    rw [lt_len hk, hg]
    simp only [cond_true, Option.bind_some, f102_b_k43]
    rw [wr_succ (by omega)]
    cases h4 : (l[k].fKind == 4) with
    | true =>
      simp only [cond_true]
      rw [f102_round hc hk h4]
      have : (⟨l[k].fKind, ixI o l[k].fN⟩ : Val) = mvR o l[k] := by unfold mvR; rw [h4]; rfl
      rw [this]
      unfold setI
      rw [Int.toNat_natCast, half_set hk]
    | false =>
      simp only [cond_false]
      rw [half_same hk]
      unfold mvR; rw [h4]; rfl
  · show f102_b_l18 l (mapOf o) f102_b_k14 (m + 1) (l.length : Int) _ = _
    rw [f102_b_l18.eq_2, ge_len]
    rfl
theorem f62_eq {g : Graph} (hg : GraphOk g) (hz : Sized g) {n : Nat} (hn : 500 < n) : f62 n g = some (canG g, canAt g) := by
  obtain ⟨ho, h1, h2⟩ := orderR_spec hg
  have hN := hz.nd
  have hlen := ho.len
  unfold f62
  have h0 : f100 n [] [] [] [] [] g.fNodes g.fRoots g.fRoots = some (mapOf (meetL [] g.fRoots), meetL [] g.fRoots) :=
    f100_eq hN (o := []) (OrdOk.nil _) hg.rt hz.rt
  rw [h0]
  simp only [Option.bind_some]
  rw [f62_walk hg hz hn]
  unfold f62_k10
  rw [f102_eq h1 hz.rt hn]
  simp only [Option.bind_some]
  have h3 := loopT (N := (orderR g).length) (fun m k s => f62_l55 (orderR g) g n (mapOf (orderR g)) (g.fRoots.map (mvR (orderR g))) (f62_k51 n g (mapOf (orderR g)) (g.fRoots.map (mvR (orderR g)))) m k s)
    (fun s => f62_k51 n g (mapOf (orderR g)) (g.fRoots.map (mvR (orderR g))) s) (fun k => ((orderR g).take k).map (nodeR g (orderR g))) (fun m k hk => ?_) (fun m => ?_) (orderR g).length 0 n (by omega) (by omega)
  · refine h3.trans ?_
    rw [List.take_length]
    unfold f62_k51
    have h4 := loopT (N := g.fNodes.length) (fun m k s => f62_l102 g (mapOf (orderR g)) (f62_k98 ((orderR g).map (nodeR g (orderR g))) (g.fRoots.map (mvR (orderR g)))) m k s)
      (fun s => f62_k98 ((orderR g).map (nodeR g (orderR g))) (g.fRoots.map (mvR (orderR g))) s) (fun k => (List.range k).map fun i => ixI (orderR g) (i : Nat)) (fun m k hk => ?_) (fun m => ?_) g.fNodes.length 0 n (by omega) (by omega)
    · exact h4
    · show f62_l102 g _ _ (m + 1) (k : Int) _ = _
      rw [f62_l102.eq_2, lt_len hk]
      simp only [cond_true, f62_k127]
      rw [mget_isSome, wr_succ (by omega), List.range_succ, List.map_append]
      rw [app2_ok (by simp; omega), app2_ok (by simp; omega)]
      simp only [Option.bind_some, List.map_cons, List.map_nil]
      cases hc : (orderR g).contains (k : Int) with
      | true => rw [mget_ix (contains_iff.1 hc)]; rfl
      | false =>
        have : ixI (orderR g) (k : Int) = -1 := by unfold ixI; rw [hc]; rfl
        rw [this]; rfl
    · show f62_l102 g _ _ (m + 1) (g.fNodes.length : Int) _ = _
      rw [f62_l102.eq_2, ge_len]
      rfl
  · show f62_l55 _ _ _ _ _ _ (m + 1) (k : Int) _ = _
    have hyr := ho.rg _ (List.getElem_mem hk)
    rw [f62_l55.eq_2, lt_len hk, gi_get hk]
    simp only [cond_true, Option.bind_some]
    rw [gi_node hyr]
    simp only [Option.bind_some]
    rw [f102_b_eq (h2 _ (List.getElem_mem hk)) (by have := hz.vl _ (nodeAt_mem hyr).2; omega) hn]
    simp only [Option.bind_some]
    rw [app2_ok (by simp; omega), wr_succ (by omega)]
    simp only [Option.bind_some]
    rw [List.take_add_one, List.getElem?_eq_getElem hk, List.map_append]
    rfl
  · show f62_l55 _ _ _ _ _ _ (m + 1) ((orderR g).length : Int) _ = _
    rw [f62_l55.eq_2, ge_len]
    rfl
end Go.Proofs
end
section
namespace Go.Proofs
open Go.Vm
def meetV (o : List Int) (v : Val) : List Int := bif v.fKind == 4 then meetY o v.fN else o
theorem refsOf_cons (v : Val) (l : List Val) : refsOf (v :: l) = bif v.fKind == 4 then v.fN :: refsOf l else refsOf l := by
  unfold refsOf
  rw [List.filter_cons]
  cases v.fKind == 4 <;> simp
theorem meetL_fold : ∀ (l : List Val) (o : List Int), meetL o l = l.foldl meetV o
  | [], o => rfl
  | v :: l, o => by
    rw [List.foldl_cons, ← meetL_fold l]
    unfold meetL meetV
    rw [refsOf_cons]
    cases v.fKind == 4 <;> rfl
theorem meetL_take {o : List Int} {l : List Val} {k : Nat} (hk : k < l.length) : meetL o (l.take (k + 1)) = meetV (meetL o (l.take k)) l[k] := by
  rw [meetL_fold, meetL_fold, List.take_add_one, List.getElem?_eq_getElem hk, List.foldl_append]
  rfl
theorem refOk_take {N : Nat} {l : List Val} (h : RefOk N l) (k : Nat) : RefOk N (l.take k) := fun y hy => by
  apply h
  unfold refsOf at hy ⊢
  obtain ⟨v, hv, rfl⟩ := List.mem_map.1 hy
  have := List.mem_filter.1 hv
  exact List.mem_map.2 ⟨v, List.mem_filter.2 ⟨List.mem_of_mem_take this.1, this.2⟩, rfl⟩
theorem refOk_at {N : Nat} {l : List Val} (h : RefOk N l) {v : Val} (hv : v ∈ l) (h4 : (v.fKind == 4) = true) : 0 ≤ v.fN ∧ v.fN < (N : Int) :=
  h _ (List.mem_map.2 ⟨v, List.mem_filter.2 ⟨hv, h4⟩, rfl⟩)
theorem same_at (N : Nat) (o o' : List Int) : sameLen (atL N o) (atL N o') = some () := by
  unfold sameLen
  rw [atL_len, atL_len, Nat.beq_refl]; rfl
theorem meet_core {N : Nat} (hN : N ≤ 400) {o : List Int} (ho : OrdOk N o) {v : Val} (hv : (v.fKind == 4) = true → 0 ≤ v.fN ∧ v.fN < (N : Int))
    (k13 : Bool → Option (List Int × List Int)) (hk : ∀ b, k13 b = bif b then some (atL N o, o) else (gi (atL N o) v.fN).bind fun _ => (gi (atL N o) v.fN).bind fun _ => (app2 o [v.fN]).bind fun l => some (setI (atL N o) v.fN (len o), l)) :
    (bif v.fKind != 4 then k13 true else (gi (atL N o) v.fN).bind fun _ => (gi (atL N o) v.fN).bind fun x => k13 (decide (x ≥ 0))) = some (atL N (meetV o v), meetV o v) := by
  have hlen := ho.len
  unfold meetV
  cases h4 : (v.fKind == 4) with
  | false =>
    rw [show (v.fKind != 4) = true by simp only [bne, h4]; rfl]
    simp only [cond_true, cond_false, hk]
  | true =>
    have hr := hv h4
    rw [show (v.fKind != 4) = false by simp only [bne, h4]; rfl]
    simp only [cond_true, cond_false]
    rw [atL_get hr]
    simp only [Option.bind_some]
    rw [ixI_nonneg, hk]
    unfold meetY
    cases hc : o.contains v.fN with
    | true => rfl
    | false =>
      simp only [cond_false]
      rw [atL_get hr, app2_ok (by simp; omega)]
      simp only [Option.bind_some]
      rw [atL_set hr hc]
theorem f103_eq {N n : Nat} (hN : N ≤ 400) {o : List Int} (ho : OrdOk N o) {v : Val} (hv : (v.fKind == 4) = true → 0 ≤ v.fN ∧ v.fN < (N : Int)) {a1 : List Node} {a2 : List Val} {a3 : List Int} {a6 : List Node} {a7 : List Val} {a8 : Int} :
    f103 n a1 a2 a3 (atL N o) o a6 a7 a8 v.fKind v.fN = some (atL N (meetV o v), meetV o v) := by
  unfold f103
  exact meet_core hN ho hv (fun b => f103_k13 (atL N o) o v.fN b) (fun b => rfl)
theorem f103_b_eq {N n : Nat} (hN : N ≤ 400) {o : List Int} (ho : OrdOk N o) {v : Val} (hv : (v.fKind == 4) = true → 0 ≤ v.fN ∧ v.fN < (N : Int)) {a1 : List Node} {a2 : List Val} {a3 : List Int} {a6 : List Node} {a7 : List Val} {a8 : Int} {a9 : ByteArray} {a10 : List Val} :
    f103_b n a1 a2 a3 (atL N o) o a6 a7 a8 a9 a10 v.fKind v.fN = some (atL N (meetV o v), meetV o v) := by
  unfold f103_b
  exact meet_core hN ho hv (fun b => f103_b_k15 (atL N o) o v.fN b) (fun b => rfl)
theorem f104_eq {N n : Nat} {o : List Int} {v : Val} (hv : (v.fKind == 4) = true → 0 ≤ v.fN ∧ v.fN < (N : Int)) : f104 n v (atL N o) = some (mvR o v) := by
  unfold f104 mvR
  cases h4 : (v.fKind == 4) with
  | true => simp only [cond_true]; rw [atL_get (hv h4)]; rfl
  | false => rfl
theorem f67_init {N n : Nat} (hN : N ≤ 400) (hn : 500 < n) (K : List Int → Option GAtE) : f67_l10 K n 0 (List.replicate N 0) = K (atL N []) := by
  have hl : (List.replicate N (0 : Int)).length = N := List.length_replicate
  have h := loopT (N := N) (fun m k s => f67_l10 K m k s) (fun s => K s) (fun k => ((List.replicate N (0 : Int)).take k).map (fun _ => (-1 : Int)) ++ (List.replicate N (0 : Int)).drop k) (fun m k hk => ?_) (fun m => ?_) N 0 n (by omega) (by omega)
  · have e : ((List.replicate N (0 : Int)).take N).map (fun _ => (-1 : Int)) ++ (List.replicate N (0 : Int)).drop N = atL N [] := by
      rw [atL_nil, List.take_of_length_le (by omega), List.drop_of_length_le (by omega)]
      simp
    rw [e] at h
    exact h
  · show f67_l10 K (m + 1) (k : Int) _ = _
    rw [f67_l10.eq_2]
    have h1 : (((List.replicate N (0 : Int)).take k).map (fun _ => (-1 : Int)) ++ (List.replicate N (0 : Int)).drop k).length = N := by simp; omega
    rw [lt_len (by rw [h1]; exact hk), gi_get (by rw [h1]; exact hk)]
    simp only [cond_true, Option.bind_some]
    rw [wr_succ (by omega)]
    unfold setI
    rw [Int.toNat_natCast]
    have := half_set (f := fun _ => (-1 : Int)) (l := List.replicate N (0 : Int)) (k := k) (by omega)
    rw [this]
  · show f67_l10 K (m + 1) (N : Int) _ = _
    rw [f67_l10.eq_2]
    have h1 : (((List.replicate N (0 : Int)).take N).map (fun _ => (-1 : Int)) ++ (List.replicate N (0 : Int)).drop N).length = N := by simp
    have : decide ((N : Int) < len (((List.replicate N (0 : Int)).take N).map (fun _ => (-1 : Int)) ++ (List.replicate N (0 : Int)).drop N)) = false := by unfold len; rw [h1]; simp
    rw [this]
    rfl
theorem f67_roots {g : Graph} (hg : GraphOk g) (hz : Sized g) {n : Nat} (hn : 500 < n) (K : List Int → List Int → Option GAtE) :
    f67_l38 g n K n 0 (atL g.fNodes.length []) [] = K (atL g.fNodes.length (meetL [] g.fRoots)) (meetL [] g.fRoots) := by
  have hN := hz.nd
  have hr := hz.rt
  have h := loopT (N := g.fRoots.length) (fun m k (s : List Int × List Int) => f67_l38 g n K m k s.1 s.2) (fun s => K s.1 s.2) (fun k => (atL g.fNodes.length (meetL [] (g.fRoots.take k)), meetL [] (g.fRoots.take k))) (fun m k hk => ?_) (fun m => ?_) g.fRoots.length 0 n (by omega) (by omega)
  · rw [List.take_length] at h
    exact h
  · show f67_l38 g n K (m + 1) (k : Int) (atL g.fNodes.length (meetL [] (g.fRoots.take k))) (meetL [] (g.fRoots.take k)) = _
    have ho := (OrdOk.nil g.fNodes.length).meetL (refOk_take hg.rt k)
    rw [f67_l38.eq_2, lt_len hk, gi_get hk]
    simp only [cond_true, Option.bind_some]
    rw [f103_eq hN ho (fun h4 => refOk_at hg.rt (List.getElem_mem hk) h4)]
    simp only [Option.bind_some]
    rw [same_at, wr_succ (by omega), meetL_take hk]
    rfl
  · show f67_l38 g n K (m + 1) (g.fRoots.length : Int) _ _ = _
    rw [f67_l38.eq_2, ge_len]
    rfl
theorem f67_vals {g : Graph} (hz : Sized g) {x : Node} (hx : RefOk g.fNodes.length x.fVals) (hl : x.fVals.length ≤ 30) {n : Nat} (hn : 500 < n) {o : List Int} (ho : OrdOk g.fNodes.length o) (K : List Int → List Int → Option GAtE) :
    f67_l131 x n g K n 0 (atL g.fNodes.length o) o = K (atL g.fNodes.length (meetL o x.fVals)) (meetL o x.fVals) := by
  have hN := hz.nd
  have h := loopT (N := x.fVals.length) (fun m k (s : List Int × List Int) => f67_l131 x n g K m k s.1 s.2) (fun s => K s.1 s.2) (fun k => (atL g.fNodes.length (meetL o (x.fVals.take k)), meetL o (x.fVals.take k))) (fun m k hk => ?_) (fun m => ?_) x.fVals.length 0 n (by omega) (by omega)
  · rw [List.take_length] at h
    exact h
  · show f67_l131 x n g K (m + 1) (k : Int) (atL g.fNodes.length (meetL o (x.fVals.take k))) (meetL o (x.fVals.take k)) = _
    have ho' := ho.meetL (refOk_take hx k)
    rw [f67_l131.eq_2, lt_len hk, gi_get hk]
    simp only [cond_true, Option.bind_some]
    rw [f103_b_eq hN ho' (fun h4 => refOk_at hx (List.getElem_mem hk) h4)]
    simp only [Option.bind_some]
    rw [same_at, wr_succ (by omega), meetL_take hk]
    rfl
  · show f67_l131 x n g K (m + 1) (x.fVals.length : Int) _ _ = _
    rw [f67_l131.eq_2, ge_len]
    rfl
theorem f67_walk {g : Graph} (hg : GraphOk g) (hz : Sized g) {n : Nat} (hn : 500 < n) (K : List Int → List Int → Option GAtE) :
    f67_l69 g n K n 0 (atL g.fNodes.length (meetL [] g.fRoots)) (meetL [] g.fRoots) = K (atL g.fNodes.length (orderR g)) (orderR g) := by
  have hN := hz.nd
  refine walkLoop hg (fun o => (atL g.fNodes.length o, o)) (fun m i p => f67_l69 g n K m i p.1 p.2) (fun p => K p.1 p.2) (fun m i o y ho hy => ?_) (fun m o ho => ?_) (g.fNodes.length + 1) 0 n _ ((OrdOk.nil _).meetL hg.rt) (Nat.zero_le _) (by omega) (by omega)
  · have hlt := (List.getElem?_eq_some_iff.1 hy).1
    have hlen := ho.len
    have hyr := ho.rg y (List.mem_of_getElem? hy)
    show f67_l69 g n K (m + 1) (i : Int) (atL g.fNodes.length o) o = _
    rw [f67_l69.eq_2, lt_len hlt, gi_nat, hy]
    simp only [cond_true, Option.bind_some]
    rw [gi_node hyr]
    simp only [Option.bind_some]
    rw [f67_vals hz (hg.vals hyr) (hz.vl _ (nodeAt_mem hyr).2) hn ho]
    unfold f67_k120
    rw [wr_succ (by omega)]
  · show f67_l69 g n K (m + 1) (o.length : Int) _ o = _
    rw [f67_l69.eq_2, ge_len]
    rfl
theorem take_snoc {α β : Type} {f : α → β} {l : List α} {k : Nat} (hk : k < l.length) : (l.take (k + 1)).map f = (l.take k).map f ++ [f l[k]] := by
  rw [List.take_add_one, List.getElem?_eq_getElem hk, List.map_append]; rfl
theorem f67_moved {N n : Nat} {x : Node} (hx : RefOk N x.fVals) (hl : x.fVals.length ≤ 30) (hn : 500 < n) {o : List Int} (K : List Val → Option GAtE) :
    f67_l234 x n (atL N o) K n 0 [] = K (x.fVals.map (mvR o)) := by
  have h := loopT (N := x.fVals.length) (fun m k s => f67_l234 x n (atL N o) K m k s) (fun s => K s) (fun k => (x.fVals.take k).map (mvR o)) (fun m k hk => ?_) (fun m => ?_) x.fVals.length 0 n (by omega) (by omega)
  · rw [List.take_length] at h
    exact h
  · show f67_l234 x n (atL N o) K (m + 1) (k : Int) _ = _
    rw [f67_l234.eq_2, lt_len hk, gi_get hk]
    simp only [cond_true, Option.bind_some]
    rw [f104_eq (fun h4 => refOk_at hx (List.getElem_mem hk) h4)]
    simp only [Option.bind_some]
    rw [app2_ok (by simp; omega), wr_succ (by omega), take_snoc hk]
    rfl
  · show f67_l234 x n (atL N o) K (m + 1) (x.fVals.length : Int) _ = _
    rw [f67_l234.eq_2, ge_len]
    rfl
theorem f67_movedRoots {g : Graph} (hg : GraphOk g) (hz : Sized g) {n : Nat} (hn : 500 < n) {o : List Int} (K : List Val → Option GAtE) :
    f67_l270 g n (atL g.fNodes.length o) K n 0 [] = K (g.fRoots.map (mvR o)) := by
  have hr := hz.rt
  have h := loopT (N := g.fRoots.length) (fun m k s => f67_l270 g n (atL g.fNodes.length o) K m k s) (fun s => K s) (fun k => (g.fRoots.take k).map (mvR o)) (fun m k hk => ?_) (fun m => ?_) g.fRoots.length 0 n (by omega) (by omega)
  · rw [List.take_length] at h
    exact h
  · show f67_l270 g n (atL g.fNodes.length o) K (m + 1) (k : Int) _ = _
    rw [f67_l270.eq_2, lt_len hk, gi_get hk]
    simp only [cond_true, Option.bind_some]
    rw [f104_eq (fun h4 => refOk_at hg.rt (List.getElem_mem hk) h4)]
    simp only [Option.bind_some]
    rw [app2_ok (by simp; omega), wr_succ (by omega), take_snoc hk]
    rfl
  · show f67_l270 g n (atL g.fNodes.length o) K (m + 1) (g.fRoots.length : Int) _ = _
    rw [f67_l270.eq_2, ge_len]
    rfl
theorem f67_eq {g : Graph} (hg : GraphOk g) (hz : Sized g) {n : Nat} (hn : 500 < n) : f67 n g = some ⟨canG g, canAt g, 0⟩ := by
  obtain ⟨ho, h1, h2⟩ := orderR_spec hg
  have hN := hz.nd
  have hlen := ho.len
  unfold f67
  have h0 : mkl (len g.fNodes) (0 : Int) = some (List.replicate g.fNodes.length 0) := by
    unfold mkl
    have e1 : (decide (0 ≤ len g.fNodes) && decide (len g.fNodes ≤ 1000000)) = true := by
      have : len g.fNodes = (g.fNodes.length : Int) := rfl
      rw [Bool.and_eq_true, decide_eq_true_eq, decide_eq_true_eq]
      omega
    rw [e1]
    simp [len]
  rw [h0]
  simp only [Option.bind_some]
  rw [f67_init hN hn]
  unfold f67_k7
  rw [f67_roots hg hz hn]
  unfold f67_k35
  rw [f67_walk hg hz hn]
  unfold f67_k66
  have h3 := loopT (N := (orderR g).length) (fun m k s => f67_l165 (orderR g) g n (atL g.fNodes.length (orderR g)) (f67_k162 n g (atL g.fNodes.length (orderR g))) m k s)
    (fun s => f67_k162 n g (atL g.fNodes.length (orderR g)) s) (fun k => ((orderR g).take k).map (nodeR g (orderR g))) (fun m k hk => ?_) (fun m => ?_) (orderR g).length 0 n (by omega) (by omega)
  · refine h3.trans ?_
    rw [List.take_length]
    unfold f67_k162
    rw [f67_movedRoots hg hz hn]
    rfl
  · show f67_l165 _ _ _ _ _ (m + 1) (k : Int) _ = _
    have hyr := ho.rg _ (List.getElem_mem hk)
    rw [f67_l165.eq_2, lt_len hk, gi_get hk]
    simp only [cond_true, Option.bind_some]
    rw [gi_node hyr]
    simp only [Option.bind_some]
    rw [f67_moved (hg.vals hyr) (hz.vl _ (nodeAt_mem hyr).2) hn]
    unfold f67_k231 f67_k221
    rw [app2_ok (by simp; omega), wr_succ (by omega)]
    simp only [Option.bind_some]
    rw [take_snoc hk]
    rfl
  · show f67_l165 _ _ _ _ _ (m + 1) ((orderR g).length : Int) _ = _
    rw [f67_l165.eq_2, ge_len]
    rfl
end Go.Proofs
end
section
set_option linter.unusedVariables false
namespace Go.Proofs
open Go.Vm
def gB : Nat → Nat → List Int
  | 0, _ => []
  | f + 1, m => if 128 ≤ m then ((128 + m % 128 : Nat) : Int) :: gB f (m / 128) else [(m : Int)]
def zig (n : Int) : Nat := (if n < 0 then -2 * n - 1 else 2 * n).toNat
def numB (n : Int) : List Int := gB 10 (zig n)
theorem gB_len : ∀ (f m : Nat), (gB f m).length ≤ f
  | 0, m => Nat.le_refl _
  | f + 1, m => by
    unfold gB
    split
    · have := gB_len f (m / 128); simp only [List.length_cons]; omega
    · simp
theorem numB_len (n : Int) : (numB n).length ≤ 10 := gB_len _ _
theorem gB_byte : ∀ (f m : Nat), ∀ c ∈ gB f m, 0 ≤ c ∧ c < 256
  | 0, m, c, h => by cases h
  | f + 1, m, c, h => by
    unfold gB at h
    split at h
    · rcases List.mem_cons.1 h with rfl | h
      · omega
      · exact gB_byte f _ c h
    · simp at h; omega
theorem numB_byte (n : Int) : ∀ c ∈ numB n, 0 ≤ c ∧ c < 256 := gB_byte _ _
theorem wr_u8 (x : Int) : wr .u8 x = x % 256 := by
  unfold wr IntKind.wrap
  simp [IntKind.bits, IntKind.signed]
theorem wr_u64 {x : Int} (h0 : 0 ≤ x) (h1 : x < 18446744073709551616) : wr .u64 x = x := by
  unfold wr IntKind.wrap
  simp [IntKind.bits, IntKind.signed]
  omega
theorem or128 : ∀ r : Fin 256, bitOr .u8 (r.val : Int) 128 = ((128 + r.val % 128 : Nat) : Int) := by decide +kernel
theorem or_byte (m : Nat) : bitOr .u8 (wr .u8 (m : Int)) 128 = ((128 + m % 128 : Nat) : Int) := by
  rw [wr_u8]
  have h := or128 ⟨m % 256, by omega⟩
  have e : (m : Int) % 256 = ((m % 256 : Nat) : Int) := by omega
  rw [e, h]
  congr 2
  simp
theorem shr7 (m : Nat) : shR .u64 (m : Int) 7 = ((m / 128 : Nat) : Int) := by
  unfold shR
  have : (2 : Int) ^ (min (7 : Int).toNat (IntKind.u64).bits) = 128 := by decide
  rw [this]
  rw [Int.fdiv_eq_ediv_of_nonneg _ (by omega)]
  omega
theorem num_loop (L : Nat → Int → List Int → Option (List Int)) (A D : Int → Int) (hA : ∀ m : Nat, m < 18446744073709551616 → A m = ((128 + m % 128 : Nat) : Int)) (hD : ∀ m : Nat, m < 18446744073709551616 → D m = ((m / 128 : Nat) : Int))
    (hL : ∀ m x o, L (m + 1) x o = bif decide (x ≥ 128) then (app2 o [A x]).bind fun l => L m (D x) l else (app2 o [wr .u8 x]).bind fun l => some l) :
    ∀ (f m n : Nat) (o : List Int), m < 128 ^ (f + 1) → m < 18446744073709551616 → f + 1 < n → o.length + f ≤ 1000000 → L n m o = some (o ++ gB (f + 1) m) := by
  have stop : ∀ (f m n : Nat) (o : List Int), m < 128 → o.length ≤ 1000000 → L (n + 1) m o = some (o ++ gB (f + 1) m) := fun f m n o h ho => by
    rw [hL]
    unfold gB
    rw [if_neg (by omega)]
    have h1 : decide ((m : Int) ≥ 128) = false := by simp; omega
    rw [h1, cond_false, app2_ok (by simp; omega), wr_u8]
    simp only [Option.bind_some]
    congr 3
    omega
  intro f
  induction f with
  | zero =>
    intro m n o hm hm2 hn ho
    obtain ⟨n, rfl⟩ := Nat.exists_eq_succ_of_ne_zero (by omega : n ≠ 0)
    exact stop 0 m n o (by simpa using hm) (by omega)
  | succ f ih =>
    intro m n o hm hm2 hn ho
    obtain ⟨n, rfl⟩ := Nat.exists_eq_succ_of_ne_zero (by omega : n ≠ 0)
    by_cases h : 128 ≤ m
    · rw [hL]
      unfold gB
      rw [if_pos h]
      have h1 : decide ((m : Int) ≥ 128) = true := by simp; omega
      rw [h1, cond_true, hA m hm2, app2_ok (by simp; omega)]
      simp only [Option.bind_some]
      rw [hD m hm2]
      have := ih (m / 128) n (o ++ [((128 + m % 128 : Nat) : Int)]) (by
        rw [Nat.pow_succ] at hm
        exact Nat.div_lt_of_lt_mul (by rw [Nat.mul_comm]; exact hm)) (by omega) (by omega) (by simp; omega)
      rw [this, List.append_assoc]
      rfl
    · exact stop (f + 1) m n o (by omega) (by omega)
def numOk (n : Int) : Prop := -1099511627777 ≤ n ∧ n ≤ 1099511627777
theorem zig_lt {n : Int} (h : numOk n) : zig n < 128 ^ 10 ∧ zig n < 18446744073709551616 := by
  have h1 : zig n < 4398046511104 := by obtain ⟨h1, h2⟩ := h; unfold zig; split <;> omega
  have h2 : (128 : Nat) ^ 10 = 1180591620717411303424 := by decide
  rw [h2]
  omega
theorem f64_loop {n m : Nat} (hm : m < 128 ^ 10) (hm2 : m < 18446744073709551616) (hn : 500 < n) : f64_l11 f64_k9 n m [] = some (gB 10 m) := by
  have := num_loop (f64_l11 f64_k9) (fun x => bitOr .u8 (wr .u8 x) 128) (fun x => shR .u64 x 7) (fun m _ => or_byte m) (fun m _ => shr7 m) (fun m x o => rfl) 9 m n [] hm hm2 (by omega) (by simp)
  simpa using this
theorem zig_neg {n : Int} (h : numOk n) (hn : n < 0) : wr .i64 (wr .i64 ((-2) * n) - 1) = (zig n : Int) := by
  obtain ⟨h1, h2⟩ := h
  rw [wr_id (x := (-2) * n) (by omega) (by omega), wr_id (by omega) (by omega)]
  unfold zig
  rw [if_pos hn]
  omega
theorem zig_pos {n : Int} (h : numOk n) (hn : ¬ n < 0) : wr .i64 (2 * n) = (zig n : Int) := by
  obtain ⟨h1, h2⟩ := h
  rw [wr_id (by omega) (by omega)]
  unfold zig
  rw [if_neg hn]
  omega
theorem f64_eq {n : Nat} {x : Int} (h : numOk x) (hn : 500 < n) : f64 n x = some (numB x) := by
  obtain ⟨z1, z2⟩ := zig_lt h
  unfold f64 f64_k4
  by_cases hx : x < 0
  · rw [show decide (x < 0) = true by simpa using hx, cond_true, zig_neg h hx, wr_u64 (by omega) (by omega), f64_loop z1 z2 hn]; rfl
  · rw [show decide (x < 0) = false by simpa using hx, cond_false, zig_pos h hx, wr_u64 (by omega) (by omega), f64_loop z1 z2 hn]; rfl
theorem ref_A (m : Nat) (h : m < 18446744073709551616) : wr .u8 (wr .i64 (128 + Int.tmod (m : Int) 128)) = ((128 + m % 128 : Nat) : Int) := by
  have e : Int.tmod (m : Int) 128 = ((m % 128 : Nat) : Int) := by rw [Int.tmod_eq_emod_of_nonneg (by omega)]; omega
  rw [e, wr_id (by omega) (by omega), wr_u8]
  omega
theorem ref_D (m : Nat) (h : m < 18446744073709551616) : wr .i64 (Int.tdiv (m : Int) 128) = ((m / 128 : Nat) : Int) := by
  have e : Int.tdiv (m : Int) 128 = ((m / 128 : Nat) : Int) := by rw [Int.tdiv_eq_ediv_of_nonneg (by omega)]; omega
  rw [e, wr_id (by omega) (by omega)]
theorem ref_num (L : Nat → Int → List Int → Option (List Int))
    (hL : ∀ m x o, L (m + 1) x o = bif decide (x ≥ 128) then (app2 o [wr .u8 (wr .i64 (128 + Int.tmod x 128))]).bind fun l => L m (wr .i64 (Int.tdiv x 128)) l else (app2 o [wr .u8 x]).bind fun l => some l)
    {n : Nat} {x : Int} {o : List Int} (h : numOk x) (hn : 500 < n) (ho : o.length ≤ 900000) :
    (bif decide (x < 0) then L n (wr .i64 (wr .i64 ((-2) * x) - 1)) o else L n (wr .i64 (2 * x)) o) = some (o ++ numB x) := by
  obtain ⟨z1, z2⟩ := zig_lt h
  have key := num_loop L (fun x => wr .u8 (wr .i64 (128 + Int.tmod x 128))) (fun x => wr .i64 (Int.tdiv x 128)) ref_A ref_D hL 9 (zig x) n o z1 z2 (by omega) (by omega)
  by_cases hx : x < 0
  · rw [show decide (x < 0) = true by simpa using hx, cond_true, zig_neg h hx, key]; rfl
  · rw [show decide (x < 0) = false by simpa using hx, cond_false, zig_pos h hx, key]; rfl
theorem f68_eq {n : Nat} {x : Int} {o : List Int} (h : numOk x) (hn : 500 < n) (ho : o.length ≤ 900000) {a1 : List Int} {a2 : List Node} {a3 : List Val} {a5 : List Node} {a6 : List Val} {a7 : Int} {a8 : List Node} {a9 : List Val} :
    f68 n a1 a2 a3 o a5 a6 a7 a8 a9 x = some (o ++ numB x) := ref_num (f68_l19 f68_k17) (fun m x o => rfl) h hn ho
theorem f68_b_eq {n : Nat} {x : Int} {o : List Int} (h : numOk x) (hn : 500 < n) (ho : o.length ≤ 900000) {a1 : List Int} {a3 : Int} {a4 : List Node} {a5 : List Val} :
    f68_b n a1 o a3 a4 a5 x = some (o ++ numB x) := ref_num (f68_b_l15 f68_b_k13) (fun m x o => rfl) h hn ho
theorem f68_c_eq {n : Nat} {x : Int} {o : List Int} (h : numOk x) (hn : 500 < n) (ho : o.length ≤ 900000) {a1 a3 : List Int} {a4 : Int} {a5 : List Node} {a6 : List Val} {a7 a8 : Int} :
    f68_c n a1 o a3 a4 a5 a6 a7 a8 x = some (o ++ numB x) := ref_num (f68_c_l18 f68_c_k16) (fun m x o => rfl) h hn ho
def sumL (l : List Int) : Int := l.foldl (fun s c => (31 * s + c) % 2147483647) 1
def sum4 (s : Int) : List Int := [s / 16777216 % 256, s / 65536 % 256, s / 256 % 256, s % 256]
def Bytes (l : List Int) : Prop := ∀ c ∈ l, 0 ≤ c ∧ c < 256
theorem sum_range : ∀ (l : List Int) (s : Int), 0 ≤ s ∧ s < 2147483647 → Bytes l → 0 ≤ l.foldl (fun s c => (31 * s + c) % 2147483647) s ∧ l.foldl (fun s c => (31 * s + c) % 2147483647) s < 2147483647
  | [], s, h, _ => h
  | c :: l, s, h, hl => sum_range l ((31 * s + c) % 2147483647) (by omega) (fun d hd => hl d (by simp [hd]))
theorem sumL_range {l : List Int} (h : Bytes l) : 0 ≤ sumL l ∧ sumL l < 2147483647 := sum_range l 1 (by omega) h
theorem sum_step {s c : Int} (hs : 0 ≤ s ∧ s < 2147483647) (hc : 0 ≤ c ∧ c < 256) : Int.tmod (wr .i64 (wr .i64 (31 * s) + wr .i64 c)) 2147483647 = (31 * s + c) % 2147483647 := by
  rw [wr_id (x := 31 * s) (by omega) (by omega), wr_id (x := c) (by omega) (by omega), wr_id (by omega) (by omega), Int.tmod_eq_emod_of_nonneg (by omega)]
theorem fold_take {l : List Int} {k : Nat} (hk : k < l.length) (f : Int → Int → Int) (s : Int) : (l.take (k + 1)).foldl f s = f ((l.take k).foldl f s) l[k] := by
  rw [List.take_add_one, List.getElem?_eq_getElem hk, List.foldl_append]; rfl
theorem bytes_take {l : List Int} (h : Bytes l) (k : Nat) : Bytes (l.take k) := fun c hc => h c (List.mem_of_mem_take hc)
theorem f66_eq {n : Nat} {l : List Int} (hb : Bytes l) (hl : l.length < n) (hn : n < 4611686018427387904) : f66 n l = some (sum4 (sumL l)) := by
  unfold f66
  have h := loopT (N := l.length) (fun m k s => f66_l8 l f66_k4 m s k) (fun s => f66_k4 s) (fun k => sumL (l.take k)) (fun m k hk => ?_) (fun m => ?_) l.length 0 n (by omega) hl
  · rw [List.take_length] at h
    refine h.trans ?_
    obtain ⟨h1, h2⟩ := sumL_range hb
    unfold f66_k4 sum4
    have sh : ∀ k d : Int, (2 : Int) ^ (min k.toNat (IntKind.i64).bits) = d → 0 ≤ d → shR .i64 (sumL l) k = sumL l / d := fun k d e hd => by
      unfold shR
      rw [e, Int.fdiv_eq_ediv_of_nonneg _ hd]
    rw [sh 24 16777216 (by decide) (by omega), sh 16 65536 (by decide) (by omega), sh 8 256 (by decide) (by omega), wr_u8, wr_u8, wr_u8, wr_u8]
  · show f66_l8 l f66_k4 (m + 1) (sumL (l.take k)) (k : Int) = _
    rw [f66_l8.eq_2, lt_len hk, gi_get hk]
    simp only [cond_true, Option.bind_some]
    rw [sum_step (sumL_range (bytes_take hb k)) (hb _ (List.getElem_mem hk)), wr_succ (by omega)]
    unfold sumL
    rw [fold_take hk]
  · show f66_l8 l f66_k4 (m + 1) _ (l.length : Int) = _
    rw [f66_l8.eq_2, ge_len]
    rfl
theorem f73_eq {n : Nat} {l : List Int} (hb : Bytes l) (hl : l.length < n) (hn : n < 4611686018427387904) : f73 n l = some (sumL l) := by
  unfold f73
  have h := loopT (N := l.length) (fun m k s => f73_l7 l f73_k4 m s k) (fun s => f73_k4 s) (fun k => sumL (l.take k)) (fun m k hk => ?_) (fun m => ?_) l.length 0 n (by omega) hl
  · rw [List.take_length] at h
    exact h
  · show f73_l7 l f73_k4 (m + 1) (sumL (l.take k)) (k : Int) = _
    rw [f73_l7.eq_2, lt_len hk, gi_get hk]
    simp only [cond_true, Option.bind_some]
    rw [sum_step (sumL_range (bytes_take hb k)) (hb _ (List.getElem_mem hk)), wr_succ (by omega)]
    unfold sumL
    rw [fold_take hk]
  · show f73_l7 l f73_k4 (m + 1) _ (l.length : Int) = _
    rw [f73_l7.eq_2, ge_len]
    rfl
theorem f25_eq {n : Nat} {l a1 : List Int} {a3 : Int} (hb : Bytes l) (hl : l.length < n) (hl2 : l.length ≤ 1000000) (hn : n < 4611686018427387904) : f25 n a1 l a3 = some (l ++ sum4 (sumL l)) := by
  obtain ⟨h1, h2⟩ := sumL_range hb
  unfold f25
  rw [f73_eq hb hl hn]
  simp only [Option.bind_some]
  rw [app2_ok (by simp; omega)]
  simp only [Option.bind_some, List.nil_append]
  rw [app2_ok (by simp; omega)]
  simp only [Option.bind_some]
  unfold sum4
  have d : ∀ k : Int, 0 < k → Int.tdiv (sumL l) k = sumL l / k := fun k hk => Int.tdiv_eq_ediv_of_nonneg h1
  have m : ∀ x : Int, 0 ≤ x → Int.tmod x 256 = x % 256 := fun x hx => Int.tmod_eq_emod_of_nonneg hx
  rw [d _ (by omega), d _ (by omega), d _ (by omega)]
  rw [wr_id (x := sumL l / 16777216) (by omega) (by omega), wr_id (x := sumL l / 65536) (by omega) (by omega), wr_id (x := sumL l / 256) (by omega) (by omega)]
  rw [m _ (by omega), m _ (by omega), m _ h1, wr_u8, wr_u8, wr_u8, wr_u8]
  have e1 : sumL l / 65536 % 256 % 256 = sumL l / 65536 % 256 := by omega
  have e2 : sumL l / 256 % 256 % 256 = sumL l / 256 % 256 := by omega
  have e3 : sumL l % 256 % 256 = sumL l % 256 := by omega
  rw [e1, e2, e3]
end Go.Proofs
end
section
namespace Go.Proofs
open Go.Vm
def formIx (l : List Form) (s : ByteArray) : Int := ixOf (fun x => sEqF x.fName s) l 0
def colIx (l : List Col) (s : ByteArray) : Int := ixOf (fun x => sEqF x.fName s) l 0
theorem f55_eq {n : Nat} {l : List Form} {s : ByteArray} (hn : l.length < n) (hl : l.length < 4611686018427387904) : f55 n l s = some (formIx l s) := by
  unfold f55
  have := scan0 l f55_k4 (fun x y acc => bif sEqF y.fName s then some x else acc) (f55_l7 l s f55_k4) (fun m x => rfl) hl l.length 0 n (by omega) hn
  exact this.trans (go0_ix (fun x => sEqF x.fName s) id l 0)
theorem f52_eq {n : Nat} {l : List Form} {s : ByteArray} (hn : l.length < n) (hl : l.length < 4611686018427387904) : f52 n l s = some (formIx l s) := by
  have h : f125 n l s = some (formIx l s) := by
    unfold f125
    have := scan0 l f125_k4 (fun x y acc => bif sEqF y.fName s then some x else acc) (f125_l8 l n s f125_k4) (fun m x => rfl) hl l.length 0 n (by omega) hn
    exact this.trans (go0_ix (fun x => sEqF x.fName s) id l 0)
  unfold f52 f92
  rw [h]; rfl
theorem f57_eq {n : Nat} {f : Form} {s : ByteArray} (hn : f.fCols.length < n) (hl : f.fCols.length < 4611686018427387904) : f57 n f s = some (colIx f.fCols s) := by
  unfold f57
  have := scan0 f.fCols f57_k4 (fun x y acc => bif sEqF y.fName s then some x else acc) (f57_l7 f s f57_k4) (fun m x => rfl) hl f.fCols.length 0 n (by omega) hn
  exact this.trans (go0_ix (fun x => sEqF x.fName s) id f.fCols 0)
theorem f95_eq {n : Nat} {l : List Col} {s : ByteArray} (hn : l.length < n) (hl : l.length < 4611686018427387904) : f95 n l s = some (colIx l s) := by
  have h : f144 n l s = some (colIx l s) := by
    unfold f144
    have := scan0 l f144_k4 (fun x y acc => bif sEqF y.fName s then some x else acc) (f144_l8 l n s f144_k4) (fun m x => rfl) hl l.length 0 n (by omega) hn
    exact this.trans (go0_ix (fun x => sEqF x.fName s) id l 0)
  unfold f95 f127
  rw [h]; rfl
def inR (x lo hi : Int) : Bool := decide (lo ≤ x) && decide (x ≤ hi)
theorem f86_eq (n : Nat) (x lo hi : Int) : f86 n x lo hi = some (inR x lo hi) := by
  unfold f86 inR
  cases decide (lo ≤ x) <;> rfl
theorem f58_eq (n : Nat) (x lo hi : Int) : f58 n x lo hi = some (inR x lo hi) := by
  unfold f58 inR
  show (bif decide (lo ≤ x) then _ else _) = _
  cases decide (lo ≤ x) <;> rfl
theorem f111_eq (n : Nat) (v : Val) (m : Int) : f111 n v m = f99 n v m := by
  unfold f111 f99
  simp only [f86_eq, f58_eq]
end Go.Proofs
end
section
namespace Go.Proofs
open Go.Vm
def okB (c lo hi : Int) : Bool := (decide (lo ≤ c) && decide (c ≤ hi)) || ((decide (48 ≤ c) && decide (c ≤ 57)) || (c == 95))
theorem f123_eq (n : Nat) (r lo hi : Int) : f123 n r lo hi = some (!(okB r (wr .i32 lo) (wr .i32 hi))) := by
  unfold f123 okB
  show (bif decide (wr .i32 lo ≤ r) then (bif decide (r ≤ wr .i32 hi) then _ else (bif decide (48 ≤ r) then (bif decide (r ≤ 57) then _ else _) else _)) else (bif decide (48 ≤ r) then (bif decide (r ≤ 57) then _ else _) else _)) = _
  cases decide (wr .i32 lo ≤ r) <;> cases decide (r ≤ wr .i32 hi) <;> cases decide (48 ≤ r) <;> cases decide (r ≤ 57) <;> rfl
theorem lenS (s : ByteArray) : s.data.toList.length = s.size := Array.length_toList
def allB (s : ByteArray) (lo hi : Int) (pos : Nat) : Bool := (s.data.toList.drop pos).all fun c => okB c.toNat lo hi
theorem scanStr {s : ByteArray} {n : Nat} {lo hi : Int} (hhi : wr .i32 hi < 128) : ∀ (d pos m : Nat), d + pos = s.size → d < m → ∃ r, f143_l9 s n lo hi true (some (-1)) m pos = some r ∧ decide (r < 0) = allB s (wr .i32 lo) (wr .i32 hi) pos
  | 0, pos, m, hd, hm => by
    obtain ⟨m, rfl⟩ := Nat.exists_eq_succ_of_ne_zero (by omega : m ≠ 0)
    refine ⟨-1, ?_, ?_⟩
    · rw [f143_l9.eq_2]
      have : decide (pos < ByteArray.size s) = false := by simp; omega
      rw [this]; rfl
    · have : s.data.toList.drop pos = [] := List.drop_eq_nil_of_le (by rw [lenS]; omega)
      simp [allB, this]
  | d + 1, pos, m, hd, hm => by
    obtain ⟨m, rfl⟩ := Nat.exists_eq_succ_of_ne_zero (by omega : m ≠ 0)
    have hlt : pos < s.size := by omega
    have hlen := lenS s
    have hdrop : s.data.toList.drop pos = s[pos] :: s.data.toList.drop (pos + 1) := by
      rw [List.drop_eq_getElem_cons (by omega)]
      rfl
    rw [f143_l9.eq_2]
    have h1 : decide (pos < ByteArray.size s) = true := by simpa using hlt
    rw [h1]
    simp only [cond_true, f123_eq, Option.bind_some]
    by_cases ha : (s[pos]'hlt).toNat < 128
    · have hdec := decode_ascii s pos hlt ha
      have e1 : dec1 s pos = (s[pos]'hlt).toNat := by simp [dec1, hdec]
      have e2 : dec2 s pos = 1 := by simp [dec2, hdec]
      rw [e1, e2]
      cases hok : okB ((s[pos]'hlt).toNat : Int) (wr .i32 lo) (wr .i32 hi) with
      | true =>
        obtain ⟨r, hr1, hr2⟩ := scanStr (s := s) (n := n) (lo := lo) hhi d (pos + 1) m (by omega) (by omega)
        refine ⟨r, hr1, ?_⟩
        rw [hr2]
        unfold allB
        rw [hdrop, List.all_cons, hok, Bool.true_and]
      | false =>
        refine ⟨(pos : Int), rfl, ?_⟩
        unfold allB
        rw [hdrop, List.all_cons, hok, Bool.false_and]
        simp
    · have hdec := decode_high s pos hlt (by omega)
      have e1 : 128 ≤ dec1 s pos := by have := hdec.1; unfold dec1; omega
      have hok : okB (dec1 s pos) (wr .i32 lo) (wr .i32 hi) = false := by
        unfold okB
        have a1 : decide (dec1 s pos ≤ wr .i32 hi) = false := by simp; omega
        have a2 : decide (dec1 s pos ≤ 57) = false := by simp; omega
        have a3 : (dec1 s pos == 95) = false := by simp; omega
        rw [a1, a2, a3]; simp
      have hok2 : okB ((s[pos]'hlt).toNat : Int) (wr .i32 lo) (wr .i32 hi) = false := by
        unfold okB
        have a1 : decide (((s[pos]'hlt).toNat : Int) ≤ wr .i32 hi) = false := by simp; omega
        have a2 : decide (((s[pos]'hlt).toNat : Int) ≤ 57) = false := by simp; omega
        have a3 : (((s[pos]'hlt).toNat : Int) == 95) = false := by simp; omega
        rw [a1, a2, a3]; simp
      rw [hok]
      refine ⟨(pos : Int), rfl, ?_⟩
      unfold allB
      rw [hdrop, List.all_cons, hok2, Bool.false_and]
      simp
theorem f122_eq {s : ByteArray} {n : Nat} {lo hi : Int} (hhi : wr .i32 hi < 128) (hn : s.size < n) : ∃ r, f122 n s lo hi = some r ∧ decide (r < 0) = allB s (wr .i32 lo) (wr .i32 hi) 0 := by
  obtain ⟨r, h1, h2⟩ := scanStr (s := s) (n := n) (lo := lo) hhi s.size 0 n (by omega) hn
  refine ⟨r, ?_, h2⟩
  unfold f122 f143
  have : f143_l9 s n lo hi true f143_k6 n 0 = some r := h1
  rw [this]; rfl
end Go.Proofs
end
section
namespace Go.Proofs
open Go.Vm
def namedL (lo hi : Int) : List UInt8 → Bool
  | [] => false
  | c :: t => decide (((c :: t).length : Int) ≤ 20) && (decide (lo ≤ (c.toNat : Int)) && (decide ((c.toNat : Int) ≤ hi) && (c :: t).all fun c => okB c.toNat lo hi))
theorem si_zero (s : ByteArray) : si s 0 = (s.data.toList.head?).map fun c => (c.toNat : Int) := by
  show (s[0]?).map _ = _
  congr 1
  obtain ⟨⟨l⟩⟩ := s
  cases l <;> rfl
theorem f90_eq {n : Nat} {s : ByteArray} {lo hi : Int} (hn : s.size < n) (hlo : wr .i32 lo = lo) (hhi : wr .i32 hi = hi) (h7 : hi < 128) : f90 n s lo hi = some (namedL lo hi s.data.toList) := by
  obtain ⟨r, h1, h2⟩ := f122_eq (s := s) (n := n) (lo := lo) (hi := hi) (by rw [hhi]; exact h7) hn
  have hsz := lenS s
  unfold f90
  have e0 : sEqF s (ByteArray.mk #[]) = s.data.toList.isEmpty := by
    unfold sEqF
    cases s.data.toList <;> rfl
  rw [e0, si_zero]
  unfold allB at h2
  rw [hlo, hhi, List.drop_zero] at h2
  have eb : bsz s = (s.data.toList.length : Int) := by unfold bsz; rw [hsz]
  rw [eb]
  cases hl : s.data.toList with
  | nil => simp [namedL, f90_k6]
  | cons c t =>
    rw [hl] at h2
    simp only [List.isEmpty_cons, cond_false, List.head?_cons, Option.map_some, Option.bind_some, f90_k6, h1, cond_true]
    show _ = some (decide (((c :: t).length : Int) ≤ 20) && (decide (lo ≤ (c.toNat : Int)) && (decide ((c.toNat : Int) ≤ hi) && (c :: t).all fun c => okB c.toNat lo hi)))
    rw [← h2]
    by_cases a1 : ((c :: t).length : Int) ≤ 20
    · have b1 : decide (((c :: t).length : Int) > 20) = false := by simp at a1 ⊢; omega
      have b2 : decide (((c :: t).length : Int) ≤ 20) = true := by simpa using a1
      rw [b1, b2]
      by_cases a2 : lo ≤ (c.toNat : Int)
      · have b3 : decide ((c.toNat : Int) < lo) = false := by simp; omega
        rw [b3]
        by_cases a3 : (c.toNat : Int) ≤ hi
        · have b4 : decide ((c.toNat : Int) > hi) = false := by simp; omega
          rw [b4]; simp [a2, a3]
        · have b4 : decide ((c.toNat : Int) > hi) = true := by simp; omega
          rw [b4]; simp [a2, a3]
      · have b3 : decide ((c.toNat : Int) < lo) = true := by simp; omega
        rw [b3]; simp [a2]
    · have b1 : decide (((c :: t).length : Int) > 20) = true := by simp at a1 ⊢; omega
      have b2 : decide (((c :: t).length : Int) ≤ 20) = false := by simpa using a1
      rw [b1, b2]; rfl
end Go.Proofs
end
section
namespace Go.Proofs
open Go.Vm
theorem ixOf_ge {α : Type} (p : α → Bool) : ∀ (l : List α) (k : Nat), decide (ixOf p l k ≥ 0) = l.any p
  | [], k => rfl
  | y :: l, k => by
    unfold ixOf
    rw [List.any_cons]
    cases p y
    · simpa using ixOf_ge p l (k + 1)
    · simp
theorem ixOf_lt {α : Type} (p : α → Bool) (l : List α) (k : Nat) : decide (ixOf p l k < 0) = !l.any p := by
  rw [← ixOf_ge p l k]
  by_cases h : ixOf p l k ≥ 0
  · have : ¬ ixOf p l k < 0 := by omega
    simp [h, this]
  · have : ixOf p l k < 0 := by omega
    simp [h, this]
theorem f91_eq {n : Nat} {l : List ByteArray} {s : ByteArray} (hn : l.length < n) (hl : l.length < 4611686018427387904) : f91 n l s = some (l.any fun x => sEqF s x) := by
  have h : f124 n l s = some (ixOf (fun x => sEqF s x) l 0) := by
    unfold f124
    have := scan0 l f124_k4 (fun x y acc => bif sEqF s y then some x else acc) (f124_l8 l s f124_k4) (fun m x => rfl) hl l.length 0 n (by omega) hn
    exact this.trans (go0_ix (fun x => sEqF s x) id l 0)
  unfold f91
  rw [h]
  show some (decide (ixOf (fun x => sEqF s x) l 0 ≥ 0)) = _
  rw [ixOf_ge]
def classKw : List ByteArray := [(ByteArray.mk #[73, 78, 84, 69, 71, 69, 82]), (ByteArray.mk #[66, 79, 79, 76, 69, 65, 78]), (ByteArray.mk #[65, 78, 89]), (ByteArray.mk #[78, 79, 78, 69])]
def smallKw : List ByteArray := [(ByteArray.mk #[116, 114, 117, 101]), (ByteArray.mk #[102, 97, 108, 115, 101]), (ByteArray.mk #[118, 111, 105, 100]), (ByteArray.mk #[99, 117, 114, 114, 101, 110, 116]), (ByteArray.mk #[114, 101, 115, 117, 108, 116])]
def classB (s : ByteArray) : Bool := namedL 65 90 s.data.toList && !classKw.any fun x => sEqF s x
def smallB (s : ByteArray) : Bool := namedL 97 122 s.data.toList && !smallKw.any fun x => sEqF s x
theorem wr32 {x : Int} (h1 : -2147483648 ≤ x) (h2 : x < 2147483648) : wr .i32 x = x := by
  unfold wr IntKind.wrap
  simp [IntKind.bits, IntKind.signed]
  omega
theorem f51_eq {n : Nat} {s : ByteArray} (hn : s.size < n) (h4 : 10 < n) : f51 n s = some (classB s) := by
  unfold f51 classB
  rw [f90_eq hn (wr32 (by omega) (by omega)) (wr32 (by omega) (by omega)) (by omega)]
  simp only [Option.bind_some]
  cases namedL 65 90 s.data.toList with
  | false => rfl
  | true =>
    rw [f91_eq (by simp; omega) (by simp)]
    rfl
theorem f94_eq {n : Nat} {s : ByteArray} (hn : s.size < n) (h4 : 10 < n) : f94 n s = some (smallB s) := by
  unfold f94 smallB
  rw [f90_eq hn (wr32 (by omega) (by omega)) (wr32 (by omega) (by omega)) (by omega)]
  simp only [Option.bind_some]
  cases namedL 97 122 s.data.toList with
  | false => rfl
  | true =>
    rw [f91_eq (by simp; omega) (by simp)]
    rfl
end Go.Proofs
end
section
namespace Go.Proofs
open Go.Vm
def goN {ρ : Type} (B : Nat → Option ρ → Option ρ) (K : Option ρ) : Nat → Nat → Option ρ
  | 0, _ => K
  | d + 1, k => B k (goN B K d (k + 1))
theorem scanN {ρ : Type} (N : Nat) (K : Option ρ) (B : Nat → Option ρ → Option ρ) (L : Nat → Int → Option ρ) (hL : ∀ m (k : Nat), k < N → L (m + 1) k = B k (L m (wr .i64 (k + 1)))) (hK : ∀ m, L (m + 1) N = K) (hl : N < 4611686018427387904) :
    ∀ (d k m : Nat), d + k = N → d < m → L m k = goN B K d k
  | 0, k, m, hk, hm => by
    obtain ⟨m, rfl⟩ := Nat.exists_eq_succ_of_ne_zero (by omega : m ≠ 0)
    have : k = N := by omega
    subst this
    exact hK m
  | d + 1, k, m, hk, hm => by
    obtain ⟨m, rfl⟩ := Nat.exists_eq_succ_of_ne_zero (by omega : m ≠ 0)
    rw [hL m k (by omega), wr_id (by omega) (by omega)]
    have := scanN N K B L hL hK hl d (k + 1) m (by omega) (by omega)
    push_cast at this
    rw [this]; rfl
theorem si_get (s : ByteArray) (k : Nat) : si s (k : Int) = (s.data.toList[k]?).map fun c => (c.toNat : Int) := by
  show (s[k]?).map _ = _
  congr 1
  obtain ⟨⟨l⟩⟩ := s
  by_cases h : k < l.length
  · rw [List.getElem?_eq_getElem h]
    have h' : k < (ByteArray.mk ⟨l⟩).size := h
    rw [getElem?_pos (ByteArray.mk ⟨l⟩) k h']
    rfl
  · have h9 : l[k]? = none := List.getElem?_eq_none (by omega)
    show _ = l[k]?
    rw [h9]
    have h' : ¬ k < (ByteArray.mk ⟨l⟩).size := h
    rw [getElem?_neg (ByteArray.mk ⟨l⟩) k h']
theorem goN_all {ρ : Type} (l : List UInt8) (p : UInt8 → Bool) (K F : Option ρ) : ∀ (d k : Nat), d + k = l.length → goN (fun k acc => match l[k]? with | some c => bif p c then acc else F | none => none) K d k = bif (l.drop k).all p then K else F
  | 0, k, h => by
    have : l.drop k = [] := List.drop_eq_nil_of_le (by omega)
    rw [this]; rfl
  | d + 1, k, h => by
    have hlt : k < l.length := by omega
    rw [List.drop_eq_getElem_cons hlt, List.all_cons]
    show (match l[k]? with | some c => bif p c then goN _ K d (k + 1) else F | none => none) = _
    rw [List.getElem?_eq_getElem hlt]
    show (bif p l[k] then goN _ K d (k + 1) else F) = _
    rw [goN_all l p K F d (k + 1) (by omega)]
    cases p l[k] <;> rfl
theorem f56_l {s : ByteArray} {K : Option Bool} {n : Nat} (hn : s.size < n) (hl : s.size < 4611686018427387904) : f56_l18 s K n 0 = bif s.data.toList.all (fun c => okB c.toNat 97 122) then K else some false := by
  have hlen := lenS s
  have := scanN s.size K (fun k acc => match s.data.toList[k]? with | some c => bif okB c.toNat 97 122 then acc else some false | none => none) (f56_l18 s K) (fun m k hk => ?_) (fun m => ?_) hl s.size 0 n (by omega) hn
  · have h2 := goN_all s.data.toList (fun c => okB c.toNat 97 122) K (some false) s.size 0 (by omega)
    exact this.trans h2
  · rw [f56_l18.eq_2]
    have h1 : decide ((k : Int) < bsz s) = true := by simp [bsz]; omega
    rw [h1, si_get, List.getElem?_eq_getElem (by omega)]
    simp only [cond_true, Option.map_some, Option.bind_some]
    generalize ((s.data.toList[k]'(by omega)).toNat : Int) = c
    unfold okB f56_k61
    show (bif decide (97 ≤ c) then (bif decide (c ≤ 122) then _ else (bif decide (48 ≤ c) then (bif decide (c ≤ 57) then _ else _) else _)) else (bif decide (48 ≤ c) then (bif decide (c ≤ 57) then _ else _) else _)) = _
    cases decide (97 ≤ c) <;> cases decide (c ≤ 122) <;> cases decide (48 ≤ c) <;> cases decide (c ≤ 57) <;> cases (c == 95) <;> rfl
  · rw [f56_l18.eq_2]
    have h1 : decide ((s.size : Int) < bsz s) = false := by simp [bsz]
    rw [h1]; rfl
end Go.Proofs
end
section
namespace Go.Proofs
open Go.Vm
theorem f56_k15_eq (s : ByteArray) : f56_k15 s = some (!smallKw.any fun x => sEqF s x) := by
  unfold f56_k15 f56_k92 smallKw
  simp only [List.any_cons, List.any_nil]
  cases sEqF s (ByteArray.mk #[116, 114, 117, 101]) <;> cases sEqF s (ByteArray.mk #[102, 97, 108, 115, 101]) <;> cases sEqF s (ByteArray.mk #[118, 111, 105, 100]) <;> cases sEqF s (ByteArray.mk #[99, 117, 114, 114, 101, 110, 116]) <;> cases sEqF s (ByteArray.mk #[114, 101, 115, 117, 108, 116]) <;> rfl
theorem f56_eq {n : Nat} {s : ByteArray} (hn : s.size < n) (hl : s.size < 4611686018427387904) : f56 n s = some (smallB s) := by
  have hsz := lenS s
  have eb : bsz s = (s.data.toList.length : Int) := by unfold bsz; rw [hsz]
  unfold f56
  rw [si_zero, eb]
  simp only [f56_k4, f56_l hn hl, f56_k15_eq, cond_true, cond_false]
  unfold smallB
  cases hd : s.data.toList with
  | nil => rfl
  | cons c t =>
    have b0 : decide (((c :: t).length : Int) < 1) = false := by simp; omega
    rw [b0]
    simp only [cond_false, List.head?_cons, Option.map_some, Option.bind_some]
    show _ = some ((decide (((c :: t).length : Int) ≤ 20) && (decide (97 ≤ (c.toNat : Int)) && (decide ((c.toNat : Int) ≤ 122) && (c :: t).all fun c => okB c.toNat 97 122))) && _)
    generalize ((c :: t).all fun c => okB c.toNat 97 122) = A
    generalize (!smallKw.any fun x => sEqF s x) = W
    by_cases a1 : ((c :: t).length : Int) ≤ 20
    · have b1 : decide (((c :: t).length : Int) > 20) = false := by simp at a1 ⊢; omega
      have b2 : decide (((c :: t).length : Int) ≤ 20) = true := by simpa using a1
      rw [b1, b2]
      by_cases a2 : 97 ≤ (c.toNat : Int)
      · have b3 : decide ((c.toNat : Int) < 97) = false := by simp; omega
        have b5 : decide (97 ≤ (c.toNat : Int)) = true := by simpa using a2
        rw [b3, b5]
        by_cases a3 : (c.toNat : Int) ≤ 122
        · have b4 : decide ((c.toNat : Int) > 122) = false := by simp; omega
          have b6 : decide ((c.toNat : Int) ≤ 122) = true := by simpa using a3
          rw [b4, b6]; cases A <;> cases W <;> rfl
        · have b4 : decide ((c.toNat : Int) > 122) = true := by simp; omega
          have b6 : decide ((c.toNat : Int) ≤ 122) = false := by simpa using a3
          rw [b4, b6]; cases A <;> cases W <;> rfl
      · have b3 : decide ((c.toNat : Int) < 97) = true := by simp; omega
        have b5 : decide (97 ≤ (c.toNat : Int)) = false := by simpa using a2
        rw [b3, b5]; rfl
    · have b1 : decide (((c :: t).length : Int) > 20) = true := by simp at a1 ⊢; omega
      have b2 : decide (((c :: t).length : Int) ≤ 20) = false := by simpa using a1
      rw [b1, b2]; rfl
end Go.Proofs
end
section
namespace Go.Proofs
open Go.Vm
theorem go0_any {α : Type} (p : α → Bool) : ∀ (l : List α) (k : Nat), go0 (fun _ y acc => bif p y then some true else acc) (some false) l k = some (l.any p)
  | [], k => rfl
  | y :: l, k => by
    simp only [go0, List.any_cons]
    cases p y
    · exact go0_any p l (k + 1)
    · rfl
theorem f129_eq {n : Nat} {l : List ByteArray} {s : ByteArray} (hn : l.length < n) (hl : l.length < 4611686018427387904) : f129 n l s = some (l.any fun x => sEqF x s) := by
  unfold f129
  have := scan0 l f129_k4 (fun x y acc => bif sEqF y s then some true else acc) (f129_l7 l s f129_k4) (fun m x => rfl) hl l.length 0 n (by omega) hn
  exact this.trans (go0_any (fun x => sEqF x s) l 0)
theorem f148_eq (n : Nat) (c : Int) : f148 n c = some (decide (97 ≤ c) && decide (c ≤ 122)) := by
  unfold f148
  show (bif decide (97 ≤ c) then _ else _) = _
  cases decide (97 ≤ c) <;> rfl
theorem f149_eq (n : Nat) (c : Int) : f149 n c = some (decide (65 ≤ c) && decide (c ≤ 90)) := by
  unfold f149
  show (bif decide (65 ≤ c) then _ else _) = _
  cases decide (65 ≤ c) <;> rfl
theorem f132_eq (n : Nat) (c : Int) : f132 n c = some (decide (48 ≤ c) && decide (c ≤ 57)) := by
  unfold f132
  show (bif decide (48 ≤ c) then _ else _) = _
  cases decide (48 ≤ c) <;> rfl
def smallC (c : Int) : Bool := decide (97 ≤ c) && decide (c ≤ 122)
def capC (c : Int) : Bool := decide (65 ≤ c) && decide (c ≤ 90)
def digC (c : Int) : Bool := decide (48 ≤ c) && decide (c ≤ 57)
def partC (c : Int) : Bool := smallC c || (capC c || (digC c || (c == 95)))
theorem f146_eq (n : Nat) (c : Int) : f146 n c = some (partC c) := by
  unfold f146
  rw [f148_eq, f149_eq, f132_eq]
  show (bif smallC c then _ else (Option.bind (some (capC c)) _)) = some (smallC c || (capC c || (digC c || (c == 95))))
  cases smallC c
  · show (bif capC c then _ else (Option.bind (some (digC c)) _)) = _
    cases capC c
    · show (bif digC c then _ else _) = _
      cases digC c <;> rfl
    · rfl
  · rfl
theorem okB_cap (c : Int) : okB c 65 90 = (capC c || (digC c || (c == 95))) := rfl
theorem partC_ok (c : Int) (h : smallC c = false) : partC c = okB c 65 90 := by unfold partC; rw [h, okB_cap]; rfl
theorem okB_part (c : Int) (h : okB c 65 90 = true) : partC c = true ∧ smallC c = false := by
  rw [okB_cap] at h
  refine ⟨by unfold partC; rw [h, Bool.or_true], ?_⟩
  unfold smallC
  unfold capC digC at h
  simp only [Bool.or_eq_true, Bool.and_eq_true, decide_eq_true_eq, beq_iff_eq] at h
  simp only [Bool.and_eq_false_iff, decide_eq_false_iff_not]
  omega
end Go.Proofs
end
section
namespace Go.Proofs
open Go.Vm
theorem goN_run (l : List UInt8) (p : UInt8 → Bool) : ∀ (d k : Nat), d + k = l.length → ∃ r : Int, goN (fun k acc => match l[k]? with | some c => bif p c then acc else some (k : Int) | none => none) (some (l.length : Int)) d k = some r ∧ decide (r < (l.length : Int)) = !(l.drop k).all p
  | 0, k, h => by
    have h0 : l.drop k = [] := List.drop_eq_nil_of_le (by omega)
    exact ⟨(l.length : Int), rfl, by rw [h0]; simp⟩
  | d + 1, k, h => by
    have hlt : k < l.length := by omega
    rw [List.drop_eq_getElem_cons hlt, List.all_cons]
    show ∃ r : Int, (match l[k]? with | some c => bif p c then goN _ _ d (k + 1) else some (k : Int) | none => none) = some r ∧ _
    rw [List.getElem?_eq_getElem hlt]
    show ∃ r : Int, (bif p l[k] then goN _ _ d (k + 1) else some (k : Int)) = some r ∧ _
    cases p l[k] with
    | true =>
      obtain ⟨r, h1, h2⟩ := goN_run l p d (k + 1) (by omega)
      exact ⟨r, h1, by rw [h2, Bool.true_and]⟩
    | false => exact ⟨k, rfl, by simp; omega⟩
theorem f131_eq {n : Nat} {s : ByteArray} (hn : s.size < n) (hl : s.size < 4611686018427387904) : ∃ r, f131 n s 0 = some r ∧ decide (r < bsz s) = !s.data.toList.all fun c => partC c.toNat := by
  have hlen := lenS s
  obtain ⟨r, h1, h2⟩ := goN_run s.data.toList (fun c => partC c.toNat) s.size 0 (by omega)
  refine ⟨r, ?_, ?_⟩
  · unfold f131
    refine Eq.trans (scanN s.size (some (s.data.toList.length : Int)) (fun k acc => match s.data.toList[k]? with | some c => bif partC c.toNat then acc else some (k : Int) | none => none) (f131_l7 0 s n f131_k5) (fun m k hk => ?_) (fun m => ?_) hl s.size 0 n (by omega) hn) h1
    · rw [f131_l7.eq_2]
      have e0 : wr .i64 (0 + (k : Int)) = k := by rw [wr_id (by omega) (by omega)]; omega
      have h1 : decide ((k : Int) < bsz s) = true := by simp [bsz]; omega
      rw [e0, h1, si_get, List.getElem?_eq_getElem (by omega)]
      simp only [cond_true, Option.map_some, Option.bind_some, f146_eq, f131_k20, f131_k5]
    · rw [f131_l7.eq_2]
      have e0 : wr .i64 (0 + (s.size : Int)) = s.size := by rw [wr_id (by omega) (by omega)]; omega
      have h1 : decide ((s.size : Int) < bsz s) = false := by simp [bsz]
      rw [e0, h1]
      show some (s.size : Int) = _
      rw [hlen]
  · rw [List.drop_zero] at h2
    rw [← h2]
    unfold bsz
    rw [hlen]
end Go.Proofs
end
section
namespace Go.Proofs
open Go.Vm
theorem scanTot {σ ρ : Type} (N : Nat) (L : Nat → σ → Int → Option ρ) (hL : ∀ m (k : Nat) v, k < N → (∃ r, L (m + 1) v k = some r) ∨ ∃ v', L (m + 1) v k = L m v' ((k + 1 : Nat) : Int)) (hK : ∀ m v, ∃ r, L (m + 1) v N = some r) :
    ∀ (d k m : Nat) (v : σ), d + k = N → d < m → ∃ r, L m v k = some r
  | 0, k, m, v, hk, hm => by
    obtain ⟨m, rfl⟩ := Nat.exists_eq_succ_of_ne_zero (by omega : m ≠ 0)
    have : k = N := by omega
    subst this
    exact hK m v
  | d + 1, k, m, v, hk, hm => by
    obtain ⟨m, rfl⟩ := Nat.exists_eq_succ_of_ne_zero (by omega : m ≠ 0)
    rcases hL m k v (by omega) with h | ⟨v', h⟩
    · exact h
    · rw [h]; exact scanTot N L hL hK d (k + 1) m v' (by omega) (by omega)
theorem f133_tot {n : Nat} {s : ByteArray} (h0 : 0 < s.size) (hn : s.size < n) (hl : s.size < 4611686018427387904) : ∃ r, f133 n s = some r := by
  have hlen := lenS s
  have two : ∀ x : Int, ∃ r, f133_l44 s f133_k41 n x 0 = some r := fun x => by
    refine scanTot s.size (fun m (v : Int) k => f133_l44 s f133_k41 m v k) (fun m k v hk => ?_) (fun m v => ?_) s.size 0 n x (by omega) hn
    · show (∃ r, f133_l44 s f133_k41 (m + 1) v k = some r) ∨ ∃ v', f133_l44 s f133_k41 (m + 1) v k = f133_l44 s f133_k41 m v' ((k + 1 : Nat) : Int)
      rw [f133_l44.eq_2]
      have h1 : decide ((k : Int) < bsz s) = true := by simp [bsz]; omega
      rw [h1, si_get, List.getElem?_eq_getElem (by omega)]
      simp only [cond_true, Option.map_some, Option.bind_some]
      have e0 : wr .i64 ((k : Int) + 1) = ((k + 1 : Nat) : Int) := by rw [wr_id (by omega) (by omega)]; omega
      rw [e0]
      generalize wr .i64 (wr .i64 (wr .i64 (10 * v) + _) - 48) = q
      cases decide (q > 1099511627776)
      · exact .inr ⟨q, rfl⟩
      · exact .inl ⟨_, rfl⟩
    · show ∃ r, f133_l44 s f133_k41 (m + 1) v (s.size : Int) = some r
      rw [f133_l44.eq_2]
      have h1 : decide ((s.size : Int) < bsz s) = false := by simp [bsz]
      rw [h1]; exact ⟨_, rfl⟩
  have k3 : ∃ r, f133_k3 s n = some r := by
    unfold f133_k3
    have e := si_get s 0
    rw [List.getElem?_eq_getElem (by omega)] at e
    have e2 : si s 0 = some ((s.data.toList[0]'(by omega)).toNat : Int) := e
    rw [e2]
    simp only [Option.bind_some, f133_k33]
    obtain ⟨r, hr⟩ := two 0
    rw [hr]
    cases ((s.data.toList[0]'(by omega)).toNat : Int) == 48 <;> cases decide (bsz s > 1) <;> exact ⟨_, rfl⟩
  unfold f133
  obtain ⟨r3, h3⟩ := k3
  rw [h3]
  refine scanTot s.size (fun m (_ : Unit) k => f133_l6 s n (some r3) m k) (fun m k v hk => ?_) (fun m v => ?_) s.size 0 n () (by omega) hn
  · show (∃ r, f133_l6 s n (some r3) (m + 1) k = some r) ∨ ∃ v' : Unit, f133_l6 s n (some r3) (m + 1) k = f133_l6 s n (some r3) m ((k + 1 : Nat) : Int)
    rw [f133_l6.eq_2]
    have h1 : decide ((k : Int) < bsz s) = true := by simp [bsz]; omega
    rw [h1, si_get, List.getElem?_eq_getElem (by omega)]
    simp only [cond_true, Option.map_some, Option.bind_some, f132_eq]
    have e0 : wr .i64 ((k : Int) + 1) = ((k + 1 : Nat) : Int) := by rw [wr_id (by omega) (by omega)]; omega
    rw [e0]
    generalize ((s.data.toList[k]'(by omega)).toNat : Int) = c
    cases (decide (48 ≤ c) && decide (c ≤ 57))
    · exact .inl ⟨_, rfl⟩
    · exact .inr ⟨(), rfl⟩
  · show ∃ r, f133_l6 s n (some r3) (m + 1) (s.size : Int) = some r
    rw [f133_l6.eq_2]
    have h1 : decide ((s.size : Int) < bsz s) = false := by simp [bsz]
    rw [h1]; exact ⟨_, rfl⟩
end Go.Proofs
end
section
namespace Go.Proofs
open Go.Vm
theorem f134_l {s : ByteArray} {n : Nat} {K : Bool → Bool → Option KE} (hl : s.size < 4611686018427387904) : ∀ (d k m : Nat) (lo hi : Bool), d + k = s.size → d < m →
    f134_l26 s n K m lo hi k = K (lo || (s.data.toList.drop k).any fun c => smallC c.toNat) (hi || (s.data.toList.drop k).any fun c => capC c.toNat)
  | 0, k, m, lo, hi, hk, hm => by
    obtain ⟨m, rfl⟩ := Nat.exists_eq_succ_of_ne_zero (by omega : m ≠ 0)
    have hlen := lenS s
    have h0 : s.data.toList.drop k = [] := List.drop_eq_nil_of_le (by omega)
    have h1 : decide ((k : Int) < bsz s) = false := by simp [bsz]; omega
    rw [f134_l26.eq_2, h1, h0]
    simp
  | d + 1, k, m, lo, hi, hk, hm => by
    obtain ⟨m, rfl⟩ := Nat.exists_eq_succ_of_ne_zero (by omega : m ≠ 0)
    have hlen := lenS s
    have hlt : k < s.data.toList.length := by omega
    have h1 : decide ((k : Int) < bsz s) = true := by simp [bsz]; omega
    have e0 : wr .i64 ((k : Int) + 1) = ((k + 1 : Nat) : Int) := by rw [wr_id (by omega) (by omega)]; omega
    have ih := fun lo hi => f134_l (n := n) (K := K) hl d (k + 1) m lo hi (by omega) (by omega)
    have es : si s (k : Int) = some ((s.data.toList[k]).toNat : Int) := by rw [si_get, List.getElem?_eq_getElem hlt]; rfl
    rw [f134_l26.eq_2, h1, List.drop_eq_getElem_cons hlt, List.any_cons, List.any_cons]
    simp only [cond_true, es, Option.bind_some, f148_eq, f149_eq, f134_k49, f134_k47, e0, ih]
    show (bif lo then (bif hi then _ else _) else (bif hi then _ else _)) = _
    cases lo <;> cases hi <;> simp [smallC, capC]
end Go.Proofs
end
section
namespace Go.Proofs
open Go.Vm
def kwL : List ByteArray := (f147 0).getD []
def signL : List ByteArray := (f130 0).getD []
def trueL : List ByteArray := [(ByteArray.mk #[84, 114, 117, 101]), (ByteArray.mk #[70, 97, 108, 115, 101]), (ByteArray.mk #[86, 111, 105, 100]), (ByteArray.mk #[67, 117, 114, 114, 101, 110, 116]), (ByteArray.mk #[82, 101, 115, 117, 108, 116])]
def hasB (l : List ByteArray) (s : ByteArray) : Bool := l.any fun x => sEqF x s
def wordR (s : ByteArray) : KE :=
  bif hasB kwL s then KE.mk 3 0 else bif hasB trueL s then KE.mk 3 0 else bif hasB smallKw s then KE.mk 0 4 else
  bif (s.data.toList.any fun c => smallC c.toNat) && (s.data.toList.any fun c => capC c.toNat) then KE.mk 0 2 else bif decide (bsz s > 20) then KE.mk 0 3 else bif s.data.toList.any fun c => smallC c.toNat then KE.mk 1 0 else KE.mk 2 0
theorem f134_eq {n : Nat} {s : ByteArray} (hn : s.size < n) (h9 : 100 < n) (hl : s.size < 4611686018427387904) : f134 n s = some (wordR s) := by
  have hK : f129 n kwL s = some (hasB kwL s) := f129_eq (by have : kwL.length < 50 := by decide
                                                            omega) (by decide)
  have hT : f129 n trueL s = some (hasB trueL s) := f129_eq (by have : trueL.length < 50 := by decide
                                                                omega) (by decide)
  have hS : f129 n smallKw s = some (hasB smallKw s) := f129_eq (by have : smallKw.length < 50 := by decide
                                                                    omega) (by decide)
  have key : f134 n s = (f129 n kwL s).bind fun r7 => (bif r7 then f134_k4 n s true else (f129 n trueL s).bind fun r10 => f134_k4 n s r10) := rfl
  have k4 : ∀ x, f134_k4 n s x = (bif x then some (KE.mk 3 0) else (f129 n smallKw s).bind fun r17 => (bif r17 then some (KE.mk 0 4) else f134_l26 s n (f134_k23 s) n false false 0)) := fun x => rfl
  have hw := f134_l (s := s) (n := n) (K := f134_k23 s) hl s.size 0 n false false (by omega) hn
  have hw2 : f134_l26 s n (f134_k23 s) n false false 0 = _ := hw
  rw [key, hK, Option.bind_some, hT, Option.bind_some]
  simp only [k4, hS, Option.bind_some, hw2, List.drop_zero, Bool.false_or, f134_k23, f134_k66]
  unfold wordR
  cases hasB kwL s <;> cases hasB trueL s <;> cases hasB smallKw s <;> cases (s.data.toList.any fun c => smallC c.toNat) <;> cases (s.data.toList.any fun c => capC c.toNat) <;> cases decide (bsz s > 20) <;> rfl
end Go.Proofs
end
section
namespace Go.Proofs
open Go.Vm
def isClassKE (r : KE) : Bool := (r.fE == 0) && (r.fK == 2)
theorem sEqF_list {a b : ByteArray} (h : sEqF a b = true) : a.data.toList = b.data.toList := by
  unfold sEqF at h
  exact eq_of_beq h
theorem hasB_false {l : List ByteArray} {s : ByteArray} (hl : (l.all fun x => !namedL 65 90 x.data.toList) = true) (h : namedL 65 90 s.data.toList = true) : hasB l s = false := by
  unfold hasB
  rw [List.any_eq_false]
  intro x hx he
  have h1 := List.all_eq_true.1 hl x hx
  rw [sEqF_list he, h] at h1
  cases h1
theorem wordR_class {s : ByteArray} (hs : 0 < s.data.toList.length) : isClassKE (wordR s) = ((!hasB kwL s && !hasB trueL s && !hasB smallKw s) && (!(s.data.toList.any fun c => smallC c.toNat) && !decide (bsz s > 20))) := by
  unfold wordR
  cases hasB kwL s <;> cases hasB trueL s <;> cases hasB smallKw s <;> cases (s.data.toList.any fun c => smallC c.toNat) <;> cases (s.data.toList.any fun c => capC c.toNat) <;> cases decide (bsz s > 20) <;> rfl
theorem f96_class {n : Nat} {s : ByteArray} (hn : s.size < n) (h9 : 100 < n) (hl : s.size < 4611686018427387904) : ∃ r, f96 n s = some r ∧ isClassKE r = namedL 65 90 s.data.toList := by
  have hlen := lenS s
  have eb : bsz s = (s.data.toList.length : Int) := by unfold bsz; rw [hlen]
  have hSg : f129 n signL s = some (hasB signL s) := f129_eq (by have : signL.length < 50 := by decide
                                                                 omega) (by decide)
  have key : f96 n s = (f129 n signL s).bind fun r7 => (bif r7 then some (KE.mk 5 0) else (bif (bsz s == 0) then f96_k12 s n true else ((f131 n s 0).bind fun r14 => (bif decide (r14 < bsz s) then f96_k12 s n true else ((si s 0).bind fun c17 => f96_k12 s n (c17 == 95)))))) := rfl
  obtain ⟨rr, hr1, hr2⟩ := f131_eq hn hl
  rw [key, hSg, Option.bind_some, hr1]
  cases hd : s.data.toList with
  | nil =>
    have e0 : (bsz s == 0) = true := by rw [eb, hd]; rfl
    rw [e0]
    cases hasB signL s
    · exact ⟨_, rfl, rfl⟩
    · exact ⟨_, rfl, rfl⟩
  | cons c t =>
    have hpos : 0 < s.size := by rw [← hlen, hd]; simp
    have e0 : (bsz s == 0) = false := by rw [eb, hd]; simp; omega
    have es : si s 0 = some (c.toNat : Int) := by rw [si_zero, hd]; rfl
    rw [e0]
    simp only [cond_false, Option.bind_some, hr2, es, hd]
    obtain ⟨rn, hrn⟩ := f133_tot (n := n) hpos hn hl
    have hw := f134_eq hn h9 hl
    have kT : f96_k12 s n true = some (KE.mk 0 2) := rfl
    have kF : f96_k12 s n false = bif digC (c.toNat : Int) then (bif (rn.fE != 0) then some (KE.mk 0 rn.fE) else some (KE.mk 4 0)) else some (wordR s) := by
      unfold f96_k12
      rw [es, hrn, hw]
      simp only [cond_false, Option.bind_some, f132_eq]
      rfl
    cases hN : namedL 65 90 (c :: t) with
    | true =>
      have hN' : namedL 65 90 s.data.toList = true := by rw [hd]; exact hN
      have h1 := hasB_false (l := signL) (by decide) hN'
      have h2 := hasB_false (l := kwL) (by decide) hN'
      have h3 := hasB_false (l := trueL) (by decide) hN'
      have h4 := hasB_false (l := smallKw) (by decide) hN'
      unfold namedL at hN
      simp only [Bool.and_eq_true, decide_eq_true_eq] at hN
      obtain ⟨n1, n2, n3, n4⟩ := hN
      have hall : ((c :: t).all fun c => partC c.toNat) = true := List.all_eq_true.2 fun x hx => (okB_part _ (List.all_eq_true.1 n4 x hx)).1
      have hsm : ((c :: t).any fun c => smallC c.toNat) = false := List.any_eq_false.2 fun x hx h => by
        have := (okB_part _ (List.all_eq_true.1 n4 x hx)).2
        rw [this] at h; cases h
      have h95 : ((c.toNat : Int) == 95) = false := by simp; omega
      have hdg : digC (c.toNat : Int) = false := by unfold digC; simp; omega
      rw [h1, hall, h95, kF, hdg]
      refine ⟨wordR s, rfl, ?_⟩
      rw [wordR_class (by rw [hd]; simp), h2, h3, h4, hd, hsm, eb, hd]
      have : decide (((c :: t).length : Int) > 20) = false := by simp at n1 ⊢; omega
      rw [this]; rfl
    | false =>
      cases hsg : hasB signL s with
      | true => exact ⟨_, rfl, rfl⟩
      | false =>
        cases hall : ((c :: t).all fun c => partC c.toNat) with
        | false => exact ⟨_, rfl, rfl⟩
        | true =>
          cases h95 : ((c.toNat : Int) == 95) with
          | true => exact ⟨_, rfl, rfl⟩
          | false =>
            rw [kF]
            cases hdg : digC (c.toNat : Int) with
            | true => cases (rn.fE != 0) <;> exact ⟨_, rfl, by first | rfl | simp [isClassKE]⟩
            | false =>
              refine ⟨wordR s, rfl, ?_⟩
              cases hc : isClassKE (wordR s) with
              | false => rfl
              | true =>
                exfalso
                rw [wordR_class (by rw [hd]; simp), hd, eb, hd] at hc
                simp only [Bool.and_eq_true, Bool.not_eq_true', decide_eq_false_iff_not] at hc
                obtain ⟨_, hsm, h20⟩ := hc
                have hok : ((c :: t).all fun c => okB c.toNat 65 90) = true := List.all_eq_true.2 fun x hx => by
                  have p1 := List.all_eq_true.1 hall x hx
                  have p2 : smallC x.toNat = false := by
                    have := List.any_eq_false.1 hsm x hx
                    simpa using this
                  rw [← partC_ok _ p2]; exact p1
                have hc1 := List.all_eq_true.1 hok c (by simp)
                rw [okB_cap, hdg, h95] at hc1
                simp only [Bool.or_false] at hc1
                unfold capC at hc1
                simp only [Bool.and_eq_true, decide_eq_true_eq] at hc1
                have : namedL 65 90 (c :: t) = true := by
                  unfold namedL
                  simp only [Bool.and_eq_true, decide_eq_true_eq]
                  exact ⟨by omega, hc1.1, hc1.2, hok⟩
                rw [this] at hN; cases hN
end Go.Proofs
end
section
namespace Go.Proofs
open Go.Vm
theorem f54_eq {n : Nat} {s : ByteArray} (hn : s.size < n) (h9 : 100 < n) (hl : s.size < 4611686018427387904) : f54 n s = some (classB s) := by
  obtain ⟨r, h1, h2⟩ := f96_class hn h9 hl
  unfold f54 classB
  rw [h1, Option.bind_some, ← h2]
  unfold isClassKE f54_k6 classKw
  simp only [List.any_cons, List.any_nil]
  have comm : ∀ a b : ByteArray, sEqF a b = sEqF b a := fun a b => by unfold sEqF; exact Bool.beq_comm
  cases (r.fE == 0) <;> cases (r.fK == 2) <;> cases sEqF s (ByteArray.mk #[73, 78, 84, 69, 71, 69, 82]) <;> cases sEqF s (ByteArray.mk #[66, 79, 79, 76, 69, 65, 78]) <;> cases sEqF s (ByteArray.mk #[65, 78, 89]) <;> cases sEqF s (ByteArray.mk #[78, 79, 78, 69]) <;> rfl
end Go.Proofs
end
section
namespace Go.Proofs
open Go.Vm
def colE (pre : List Col) (c : Col) : Int :=
  bif !smallB c.fName then 4 else bif decide (colIx pre c.fName ≥ 0) then 6 else bif !(inR c.fKind 1 3) || (c.fKind != 3 && !(sEqF c.fClass (ByteArray.mk #[]))) then 1 else 0
def colsB (l : List Col) (k : Nat) (acc : Option Int) : Option Int := match l[k]? with
  | some c => bif colE (l.take k) c == 0 then acc else some (colE (l.take k) c)
  | none => none
theorem sli_take {α : Type} (l : List α) (k : Nat) (h : k ≤ l.length) : sli l 0 (k : Int) = some (l.take k) := by
  unfold sli
  have h1 : decide ((0 : Int) ≤ 0) = true := rfl
  have h2 : decide ((0 : Int) ≤ (k : Int)) = true := by simp
  have h3 : decide ((k : Int) ≤ (l.length : Int)) = true := by simpa using h
  rw [h1, h2, h3]
  simp
theorem f53_l {l : List Col} {K : Option Int} {n : Nat} (hs : ∀ c ∈ l, c.fName.size < n) (h9 : 100 < n) (hn : l.length < n) (hl : l.length < 4611686018427387904) : f53_l12 l n K n 0 = goN (colsB l) K l.length 0 := by
  refine scanN l.length K (colsB l) (f53_l12 l n K) (fun m k hk => ?_) (fun m => ?_) hl l.length 0 n (by omega) hn
  · rw [f53_l12.eq_2]
    have h1 : decide ((k : Int) < len l) = true := by simp [len]; omega
    rw [h1, gi_nat, List.getElem?_eq_getElem hk]
    simp only [cond_true, Option.bind_some]
    rw [f94_eq (hs _ (List.getElem_mem hk)) (by omega), sli_take l k (by omega)]
    simp only [Option.bind_some]
    rw [f95_eq (by rw [List.length_take]; omega) (by rw [List.length_take]; omega), f86_eq]
    simp only [Option.bind_some, f53_k67]
    unfold colsB
    rw [List.getElem?_eq_getElem hk]
    show _ = bif colE (l.take k) l[k] == 0 then _ else some (colE (l.take k) l[k])
    unfold colE
    cases smallB l[k].fName <;> cases decide (colIx (l.take k) l[k].fName ≥ 0) <;> cases inR l[k].fKind 1 3 <;> cases (l[k].fKind != 3) <;> cases sEqF l[k].fClass (ByteArray.mk #[]) <;> rfl
  · rw [f53_l12.eq_2]
    have h1 : decide ((l.length : Int) < len l) = false := by simp [len]
    rw [h1]; rfl
end Go.Proofs
end
section
namespace Go.Proofs
open Go.Vm
theorem ixOf_app {α : Type} (p : α → Bool) : ∀ (a b : List α) (j : Nat), ixOf p (a ++ b) j = bif a.any p then ixOf p a j else ixOf p b (j + a.length)
  | [], b, j => by simp
  | y :: a, b, j => by
    rw [List.cons_append, List.any_cons]
    unfold ixOf
    cases p y
    · rw [cond_false, ixOf_app p a b (j + 1), Bool.false_or, List.length_cons, cond_false]
      rw [show j + 1 + a.length = j + (a.length + 1) by omega]
      cases b <;> rfl
    · rfl
theorem ixOf_bound {α : Type} (p : α → Bool) : ∀ (a : List α) (j : Nat), a.any p = true → (j : Int) ≤ ixOf p a j ∧ ixOf p a j < (j : Int) + a.length
  | [], j, h => by simp at h
  | y :: a, j, h => by
    rw [List.any_cons] at h
    unfold ixOf
    cases hp : p y
    · rw [hp, Bool.false_or] at h
      have := ixOf_bound p a (j + 1) h
      rw [cond_false, List.length_cons]
      push_cast at this ⊢
      omega
    · rw [cond_true, List.length_cons]
      push_cast
      omega
theorem ahead {α : Type} (p : α → Bool) (l : List α) (k : Nat) (hk : k < l.length) (hp : p l[k] = true) : decide (ixOf p l 0 < (k : Int)) = decide (ixOf p (l.take k) 0 ≥ 0) := by
  rw [ixOf_ge]
  have h1 := ixOf_app p (l.take k) (l.drop k) 0
  rw [List.take_append_drop] at h1
  rw [h1]
  cases ha : (l.take k).any p
  · rw [cond_false, List.drop_eq_getElem_cons hk]
    have : ixOf p (l[k] :: l.drop (k + 1)) (0 + (l.take k).length) = ((0 + (l.take k).length : Nat) : Int) := by
      unfold ixOf; rw [hp]; rfl
    rw [this, List.length_take]
    simp; omega
  · have := ixOf_bound p (l.take k) 0 ha
    rw [cond_true]
    rw [List.length_take] at this
    simp; omega
theorem sEqF_refl (a : ByteArray) : sEqF a a = true := by unfold sEqF; simp
end Go.Proofs
end
section
namespace Go.Proofs
open Go.Vm
theorem f17_cols {L : List Form} {x : Int} {f : Form} {K : Option Int} {n : Nat} (hg : gi L x = some f) (hs : ∀ c ∈ f.fCols, c.fName.size < n) (hs2 : ∀ c ∈ f.fCols, c.fName.size < 4611686018427387904) (hn : f.fCols.length < n) (hl : f.fCols.length < 4611686018427387904) :
    f17_l153 L x n K n 0 = goN (colsB f.fCols) K f.fCols.length 0 := by
  refine scanN f.fCols.length K (colsB f.fCols) (f17_l153 L x n K) (fun m k hk => ?_) (fun m => ?_) hl f.fCols.length 0 n (by omega) hn
  · rw [f17_l153.eq_2, hg]
    have h1 : decide ((k : Int) < len f.fCols) = true := by simp [len]; omega
    simp only [Option.bind_some, h1, cond_true, gi_nat, List.getElem?_eq_getElem hk]
    rw [f56_eq (hs _ (List.getElem_mem hk)) (hs2 _ (List.getElem_mem hk)), f57_eq hn hl, f58_eq]
    simp only [Option.bind_some, f17_k220]
    unfold colsB
    rw [List.getElem?_eq_getElem hk]
    show _ = bif colE (f.fCols.take k) f.fCols[k] == 0 then _ else some (colE (f.fCols.take k) f.fCols[k])
    unfold colE colIx
    rw [ahead (fun y => sEqF y.fName f.fCols[k].fName) f.fCols k hk (sEqF_refl _)]
    cases smallB f.fCols[k].fName <;> cases decide (ixOf (fun y => sEqF y.fName f.fCols[k].fName) (f.fCols.take k) 0 ≥ 0) <;> cases inR f.fCols[k].fKind 1 3 <;> cases (f.fCols[k].fKind != 3) <;> cases sEqF f.fCols[k].fClass (ByteArray.mk #[]) <;> rfl
  · rw [f17_l153.eq_2, hg]
    have h1 : decide ((f.fCols.length : Int) < len f.fCols) = false := by simp [len]
    simp only [Option.bind_some, h1, cond_false]
end Go.Proofs
end
section
namespace Go.Proofs
open Go.Vm
theorem goN_cols (l : List Col) (K : Option Int) : ∀ (d k : Nat), d + k = l.length → ∃ e, goN (colsB l) (some 0) d k = some e ∧ goN (colsB l) K d k = bif e == 0 then K else some e
  | 0, k, h => ⟨0, rfl, rfl⟩
  | d + 1, k, h => by
    have hk : k < l.length := by omega
    obtain ⟨e, h1, h2⟩ := goN_cols l K d (k + 1) (by omega)
    have st : ∀ K', goN (colsB l) K' (d + 1) k = bif colE (l.take k) l[k] == 0 then goN (colsB l) K' d (k + 1) else some (colE (l.take k) l[k]) := fun K' => by
      show colsB l k _ = _
      unfold colsB
      rw [List.getElem?_eq_getElem hk]
    rw [st, st]
    cases hc : colE (l.take k) l[k] == 0
    · exact ⟨_, rfl, by rw [hc]; rfl⟩
    · exact ⟨e, h1, h2⟩
theorem f49_three (n : Nat) (a b c : Int) (h : 10 < n) : f49 n [a, b, c] = some (bif a != 0 then a else bif b != 0 then b else c) := by
  unfold f49
  have := scan0 [a, b, c] f49_k3 (fun x y acc => bif y != 0 then some y else acc) (f49_l7 [a, b, c] f49_k3) (fun m x => rfl) (by simp) 3 0 n (by simp) (by omega)
  refine Eq.trans this ?_
  simp only [List.drop_zero, go0, f49_k3]
  cases ha : (a != 0)
  · cases hb : (b != 0)
    · cases hc : (c != 0)
      · have : c = 0 := by simpa using hc
        subst this; rfl
      · rfl
    · rfl
  · rfl
theorem f50_eq (n : Nat) (x : Bool) (e : Int) : f50 n x e = some (bif x then 0 else e) := by unfold f50; cases x <;> rfl
end Go.Proofs
end
section
namespace Go.Proofs
open Go.Vm
def colsR (l : List Col) : Int := bif decide (len l > 30) then 3 else (goN (colsB l) (some 0) l.length 0).getD 0
def formE (pre : List Form) (f : Form) : Int := bif !classB f.fName then 4 else bif decide (formIx pre f.fName ≥ 0) then 6 else colsR f.fCols
def formsB (l : List Form) (k : Nat) (acc : Option Int) : Option Int := match l[k]? with
  | some f => bif formE (l.take k) f == 0 then acc else some (formE (l.take k) f)
  | none => none
def FormSz (n : Nat) (l : List Form) : Prop := l.length < n ∧ ∀ f ∈ l, f.fName.size < n ∧ f.fCols.length < n ∧ ∀ c ∈ f.fCols, c.fName.size < n
theorem f53_eq {l : List Col} {n : Nat} (hs : ∀ c ∈ l, c.fName.size < n) (h9 : 100 < n) (hn : l.length < n) (hl : l.length < 4611686018427387904) : f53 n l = some (colsR l) := by
  unfold f53 colsR
  rw [f53_l hs h9 hn hl]
  obtain ⟨e, h1, _⟩ := goN_cols l none l.length 0 (by omega)
  cases decide (len l > 30)
  · show goN (colsB l) (some 0) l.length 0 = some ((goN (colsB l) (some 0) l.length 0).getD 0)
    rw [h1]; rfl
  · rfl
theorem f16_l {l : List Form} {K : Option Int} {n : Nat} (hz : FormSz n l) (h9 : 100 < n) (hn : n < 4611686018427387904) : f16_l12 l n K n 0 = goN (formsB l) K l.length 0 := by
  refine scanN l.length K (formsB l) (f16_l12 l n K) (fun m k hk => ?_) (fun m => ?_) (by have := hz.1; omega) l.length 0 n (by omega) hz.1
  · obtain ⟨z1, z2, z3⟩ := hz.2 _ (List.getElem_mem hk)
    have hlen := hz.1
    rw [f16_l12.eq_2]
    have h1 : decide ((k : Int) < len l) = true := by simp [len]; omega
    rw [h1, gi_nat, List.getElem?_eq_getElem hk, sli_take l k (by omega)]
    simp only [cond_true, Option.bind_some]
    rw [f51_eq z1 (by omega), Option.bind_some, f50_eq, Option.bind_some, f52_eq (by rw [List.length_take]; omega) (by rw [List.length_take]; omega), Option.bind_some, f50_eq, Option.bind_some, f53_eq z3 h9 z2 (by omega), Option.bind_some, f49_three n _ _ _ (by omega), Option.bind_some]
    unfold formsB
    rw [List.getElem?_eq_getElem hk]
    show _ = bif formE (l.take k) l[k] == 0 then _ else some (formE (l.take k) l[k])
    unfold formE
    have hlt : decide (formIx (l.take k) l[k].fName < 0) = !decide (formIx (l.take k) l[k].fName ≥ 0) := by
      unfold formIx; rw [ixOf_lt, ixOf_ge]
    rw [hlt]
    cases classB l[k].fName
    · rfl
    · cases decide (formIx (l.take k) l[k].fName ≥ 0)
      · show (bif colsR l[k].fCols != 0 then some (colsR l[k].fCols) else _) = bif colsR l[k].fCols == 0 then _ else some (colsR l[k].fCols)
        unfold bne
        cases colsR l[k].fCols == 0 <;> rfl
      · rfl
  · rw [f16_l12.eq_2]
    have h1 : decide ((l.length : Int) < len l) = false := by simp [len]
    rw [h1]; rfl
end Go.Proofs
end
section
namespace Go.Proofs
open Go.Vm
theorem f17_l {l : List Form} {K : Option Int} {n : Nat} (hz : FormSz n l) (h9 : 100 < n) (hn : n < 4611686018427387904) : f17_l11 l n K n 0 = goN (formsB l) K l.length 0 := by
  refine scanN l.length K (formsB l) (f17_l11 l n K) (fun m k hk => ?_) (fun m => ?_) (by have := hz.1; omega) l.length 0 n (by omega) hz.1
  · obtain ⟨z1, z2, z3⟩ := hz.2 _ (List.getElem_mem hk)
    have hlen := hz.1
    have hg : gi l (k : Int) = some l[k] := by rw [gi_nat, List.getElem?_eq_getElem hk]
    rw [f17_l11.eq_2]
    have h1 : decide ((k : Int) < len l) = true := by simp [len]; omega
    rw [h1]
    simp only [cond_true, hg, Option.bind_some]
    rw [f54_eq z1 h9 (by omega), Option.bind_some, f55_eq hlen (by omega), Option.bind_some]
    rw [f17_cols (K := f17_k125 k (f17_l11 l n K m)) hg z3 (fun c hc => by have := z3 c hc; omega) z2 (by omega)]
    unfold formsB
    rw [List.getElem?_eq_getElem hk]
    show _ = bif formE (l.take k) l[k] == 0 then _ else some (formE (l.take k) l[k])
    unfold formE formIx
    rw [ahead (fun y => sEqF y.fName l[k].fName) l k hk (sEqF_refl _)]
    cases classB l[k].fName
    · rfl
    · cases decide (ixOf (fun y => sEqF y.fName l[k].fName) (l.take k) 0 ≥ 0)
      · unfold colsR
        obtain ⟨e, e1, e2⟩ := goN_cols l[k].fCols (f17_k125 k (f17_l11 l n K m)) l[k].fCols.length 0 (by omega)
        rw [e1, e2]
        cases decide (len l[k].fCols > 30)
        · show (bif e == 0 then _ else some e) = bif e == 0 then _ else some e
          cases e == 0 <;> rfl
        · rfl
      · rfl
  · rw [f17_l11.eq_2]
    have h1 : decide ((l.length : Int) < len l) = false := by simp [len]
    rw [h1]; rfl
end Go.Proofs
end
section
namespace Go.Proofs
open Go.Vm
def refB (L : List Form) (l : List Col) (k : Nat) (acc : Option Int) : Option Int := match l[k]? with
  | some c => bif (c.fKind == 3) && (!(sEqF c.fClass (ByteArray.mk #[65, 78, 89])) && decide (formIx L c.fClass < 0)) then some 5 else acc
  | none => none
def refsB (L : List Form) (k : Nat) (acc : Option Int) : Option Int := match L[k]? with
  | some f => goN (refB L f.fCols) acc f.fCols.length 0
  | none => none
theorem f16_in {L : List Form} {f : Form} {K : Option Int} {n : Nat} (hL : L.length < n) (hf : f.fCols.length < n) (hn : n < 4611686018427387904) : f16_l130 f n L K n 0 = goN (refB L f.fCols) K f.fCols.length 0 := by
  refine scanN f.fCols.length K (refB L f.fCols) (f16_l130 f n L K) (fun m k hk => ?_) (fun m => ?_) (by omega) f.fCols.length 0 n (by omega) hf
  · rw [f16_l130.eq_2]
    have h1 : decide ((k : Int) < len f.fCols) = true := by simp [len]; omega
    rw [h1, gi_nat, List.getElem?_eq_getElem hk]
    simp only [cond_true, Option.bind_some]
    rw [f52_eq hL (by omega)]
    simp only [Option.bind_some, f16_k157]
    unfold refB
    rw [List.getElem?_eq_getElem hk]
    show _ = bif (f.fCols[k].fKind == 3) && (!(sEqF f.fCols[k].fClass (ByteArray.mk #[65, 78, 89])) && decide (formIx L f.fCols[k].fClass < 0)) then _ else _
    cases (f.fCols[k].fKind == 3) <;> cases sEqF f.fCols[k].fClass (ByteArray.mk #[65, 78, 89]) <;> cases decide (formIx L f.fCols[k].fClass < 0) <;> rfl
  · rw [f16_l130.eq_2]
    have h1 : decide ((f.fCols.length : Int) < len f.fCols) = false := by simp [len]
    rw [h1]; rfl
theorem f17_in {L : List Form} {x : Int} {f : Form} {K : Option Int} {n : Nat} (hg : gi L x = some f) (hL : L.length < n) (hf : f.fCols.length < n) (hn : n < 4611686018427387904) : f17_l296 L x n K n 0 = goN (refB L f.fCols) K f.fCols.length 0 := by
  refine scanN f.fCols.length K (refB L f.fCols) (f17_l296 L x n K) (fun m k hk => ?_) (fun m => ?_) (by omega) f.fCols.length 0 n (by omega) hf
  · rw [f17_l296.eq_2, hg]
    have h1 : decide ((k : Int) < len f.fCols) = true := by simp [len]; omega
    simp only [Option.bind_some, h1, cond_true, gi_nat, List.getElem?_eq_getElem hk]
    rw [f55_eq hL (by omega)]
    simp only [Option.bind_some, f17_k333]
    unfold refB
    rw [List.getElem?_eq_getElem hk]
    show _ = bif (f.fCols[k].fKind == 3) && (!(sEqF f.fCols[k].fClass (ByteArray.mk #[65, 78, 89])) && decide (formIx L f.fCols[k].fClass < 0)) then _ else _
    cases (f.fCols[k].fKind == 3) <;> cases sEqF f.fCols[k].fClass (ByteArray.mk #[65, 78, 89]) <;> cases decide (formIx L f.fCols[k].fClass < 0) <;> rfl
  · rw [f17_l296.eq_2, hg]
    have h1 : decide ((f.fCols.length : Int) < len f.fCols) = false := by simp [len]
    simp only [Option.bind_some, h1, cond_false]
theorem f16_l2 {l : List Form} {K : Option Int} {n : Nat} (hz : FormSz n l) (hn : n < 4611686018427387904) : f16_l70 l n K n 0 = goN (refsB l) K l.length 0 := by
  have hlen := hz.1
  refine scanN l.length K (refsB l) (f16_l70 l n K) (fun m k hk => ?_) (fun m => ?_) (by omega) l.length 0 n (by omega) hz.1
  · rw [f16_l70.eq_2]
    have h1 : decide ((k : Int) < len l) = true := by simp [len]; omega
    rw [h1, gi_nat, List.getElem?_eq_getElem hk]
    simp only [cond_true, Option.bind_some]
    rw [f16_in hlen (hz.2 _ (List.getElem_mem hk)).2.1 hn]
    unfold refsB
    rw [List.getElem?_eq_getElem hk]
    rfl
  · rw [f16_l70.eq_2]
    have h1 : decide ((l.length : Int) < len l) = false := by simp [len]
    rw [h1]; rfl
theorem f17_l2 {l : List Form} {K : Option Int} {n : Nat} (hz : FormSz n l) (hn : n < 4611686018427387904) : f17_l232 l n K n 0 = goN (refsB l) K l.length 0 := by
  have hlen := hz.1
  refine scanN l.length K (refsB l) (f17_l232 l n K) (fun m k hk => ?_) (fun m => ?_) (by omega) l.length 0 n (by omega) hz.1
  · have hg : gi l (k : Int) = some l[k] := by rw [gi_nat, List.getElem?_eq_getElem hk]
    rw [f17_l232.eq_2]
    have h1 : decide ((k : Int) < len l) = true := by simp [len]; omega
    rw [h1]
    simp only [cond_true]
    rw [f17_in hg hlen (hz.2 _ (List.getElem_mem hk)).2.1 hn]
    unfold refsB
    rw [List.getElem?_eq_getElem hk]
    rfl
  · rw [f17_l232.eq_2]
    have h1 : decide ((l.length : Int) < len l) = false := by simp [len]
    rw [h1]; rfl
theorem f16_f17 {l : List Form} {n : Nat} (hz : FormSz n l) (h9 : 100 < n) (hn : n < 4611686018427387904) : f16 n l = f17 n l := by
  unfold f16 f17 f16_k8 f17_k8
  rw [f16_l hz h9 hn, f17_l hz h9 hn, f16_l2 hz hn, f17_l2 hz hn]
  rfl
end Go.Proofs
end
section
namespace Go.Proofs
open Go.Vm
def valB (v : Val) (m : Int) : Bool := bif v.fKind == 1 then inR v.fN (-1099511627776) 1099511627776 else bif v.fKind == 2 then inR v.fN 0 1 else bif v.fKind == 3 then v.fN == 0 else bif v.fKind == 4 then inR v.fN 0 (wr .i64 (m - 1)) else false
theorem f111_val (n : Nat) (v : Val) (m : Int) : f111 n v m = some (valB v m) := by
  unfold f111 valB
  simp only [f86_eq, Option.bind_some]
  cases (v.fKind == 1) <;> cases (v.fKind == 2) <;> cases (v.fKind == 3) <;> cases (v.fKind == 4) <;> rfl
theorem f99_val (n : Nat) (v : Val) (m : Int) : f99 n v m = some (valB v m) := by rw [← f111_eq]; exact f111_val n v m
def refersB (v : Val) : Bool := (v.fKind == 3) || (v.fKind == 4)
theorem f112_eq {n : Nat} {l : List Val} {a : List Node} {b : List Val} (hn : l.length < n) (hl : l.length < 4611686018427387904) : f112 n l a b = some (l.any fun v => !valB v (len a)) := by
  have f110_eq : ∀ v, f110 n v a b = some (!valB v (len a)) := fun v => by unfold f110; rw [f111_val]; rfl
  have h : f140 n l a b = some (ixOf (fun v => !valB v (len a)) l 0) := by
    unfold f140
    have := scan0 l f140_k5 (fun x y acc => bif !valB y (len a) then some x else acc) (f140_l9 l n a b f140_k5) (fun m x => by rw [f140_l9.eq_2]; simp only [f110_eq, Option.bind_some]) hl l.length 0 n (by omega) hn
    exact this.trans (go0_ix (fun v => !valB v (len a)) id l 0)
  unfold f112
  rw [h, Option.bind_some, ixOf_ge]
theorem f112_b_eq {n : Nat} {l : List Val} {a : List Node} {b : List Val} (hn : l.length < n) (hl : l.length < 4611686018427387904) : f112_b n l a b = some (l.any fun v => !valB v (len a) || !refersB v) := by
  have f113_eq : ∀ v, f113 n v a b = some (!valB v (len a) || !refersB v) := fun v => by
    unfold f113 f110 f114 refersB
    rw [f111_val]
    simp only [Option.bind_some]
    cases valB v (len a) <;> cases (v.fKind == 3) <;> cases (v.fKind == 4) <;> rfl
  have h : f140_b n l a b = some (ixOf (fun v => !valB v (len a) || !refersB v) l 0) := by
    unfold f140_b
    have := scan0 l f140_b_k5 (fun x y acc => bif !valB y (len a) || !refersB y then some x else acc) (f140_b_l9 l n a b f140_b_k5) (fun m x => by rw [f140_b_l9.eq_2]; simp only [f113_eq, Option.bind_some]) hl l.length 0 n (by omega) hn
    exact this.trans (go0_ix (fun v => !valB v (len a) || !refersB v) id l 0)
  unfold f112_b
  rw [h, Option.bind_some, ixOf_ge]
end Go.Proofs
end
section
namespace Go.Proofs
open Go.Vm
def GraphSz (n : Nat) (g : Graph) : Prop := g.fNodes.length < n ∧ g.fRoots.length < n ∧ ∀ x ∈ g.fNodes, x.fVals.length < n
def formedR (g : Graph) : Int :=
  bif decide (len g.fNodes > 400) || decide (len g.fRoots > 60) then 3 else bif g.fNodes.any fun x => decide (len x.fVals > 30) then 3 else
  bif g.fNodes.any fun x => x.fVals.any fun v => !valB v (len g.fNodes) then 2 else bif g.fRoots.any fun v => !valB v (len g.fNodes) || !refersB v then 2 else 0
theorem scanM {α ρ : Type} (l : List α) (K : Option ρ) (p : α → Bool) (e : Option ρ) (L : Nat → Int → Option ρ)
    (hL : ∀ m (k : Nat) (hk : k < l.length), L (m + 1) k = bif p l[k] then e else L m (wr .i64 (k + 1))) (hK : ∀ m, L (m + 1) l.length = K) {n : Nat} (hn : l.length < n) (hl : l.length < 4611686018427387904) : L n 0 = bif l.any p then e else K := by
  have h := scanN l.length K (fun k acc => match l[k]? with | some y => bif p y then e else acc | none => none) L (fun m k hk => by rw [hL m k hk, List.getElem?_eq_getElem hk]) hK hl l.length 0 n (by omega) hn
  refine h.trans ?_
  have key : ∀ (d k : Nat), d + k = l.length → goN (fun k acc => match l[k]? with | some y => bif p y then e else acc | none => none) K d k = bif (l.drop k).any p then e else K := by
    intro d
    induction d with
    | zero =>
      intro k hk
      have : l.drop k = [] := List.drop_eq_nil_of_le (by omega)
      rw [this]; rfl
    | succ d ih =>
      intro k hk
      have hlt : k < l.length := by omega
      rw [List.drop_eq_getElem_cons hlt, List.any_cons]
      show (match l[k]? with | some y => bif p y then e else goN _ K d (k + 1) | none => none) = _
      rw [List.getElem?_eq_getElem hlt]
      show (bif p l[k] then e else goN _ K d (k + 1)) = _
      rw [ih (k + 1) (by omega)]
      cases p l[k] <;> rfl
  exact key l.length 0 (by omega)
theorem f74_eq {g : Graph} {n : Nat} (hz : GraphSz n g) (hn : n < 4611686018427387904) : f74 n g = some (formedR g) := by
  obtain ⟨z1, z2, z3⟩ := hz
  have l1 : ∀ K, f74_l15 g K n 0 = bif g.fNodes.any fun x => decide (len x.fVals > 30) then some 3 else K := fun K => by
    refine scanM g.fNodes K (fun x => decide (len x.fVals > 30)) (some 3) (f74_l15 g K) (fun m k hk => ?_) (fun m => ?_) z1 (by omega)
    · rw [f74_l15.eq_2]
      have h1 : decide ((k : Int) < len g.fNodes) = true := by simp [len]; omega
      rw [h1, gi_nat, List.getElem?_eq_getElem hk]; rfl
    · rw [f74_l15.eq_2]
      have h1 : decide ((g.fNodes.length : Int) < len g.fNodes) = false := by simp [len]
      rw [h1]; rfl
  have l2 : ∀ K, f74_l46 g n K n 0 = bif g.fNodes.any fun x => x.fVals.any fun v => !valB v (len g.fNodes) then some 2 else K := fun K => by
    refine scanM g.fNodes K (fun x => x.fVals.any fun v => !valB v (len g.fNodes)) (some 2) (f74_l46 g n K) (fun m k hk => ?_) (fun m => ?_) z1 (by omega)
    · rw [f74_l46.eq_2]
      have h1 : decide ((k : Int) < len g.fNodes) = true := by simp [len]; omega
      have h2 := z3 _ (List.getElem_mem hk)
      rw [h1, gi_nat, List.getElem?_eq_getElem hk]
      simp only [cond_true, Option.bind_some]
      rw [f112_eq h2 (by omega)]; rfl
    · rw [f74_l46.eq_2]
      have h1 : decide ((g.fNodes.length : Int) < len g.fNodes) = false := by simp [len]
      rw [h1]; rfl
  unfold f74 f74_k4 f74_k11 f74_k42
  rw [f112_b_eq z2 (by omega)]
  simp only [l1, l2, Option.bind_some, f50_eq]
  unfold formedR
  cases decide (len g.fNodes > 400) <;> cases decide (len g.fRoots > 60) <;> cases (g.fNodes.any fun x => decide (len x.fVals > 30)) <;> cases (g.fNodes.any fun x => x.fVals.any fun v => !valB v (len g.fNodes)) <;> cases (g.fRoots.any fun v => !valB v (len g.fNodes) || !refersB v) <;> rfl
end Go.Proofs
end
section
namespace Go.Proofs
open Go.Vm
theorem f60_eq {g : Graph} {n : Nat} (hz : GraphSz n g) (hn : n < 4611686018427387904) : f60 n g = some (formedR g) := by
  obtain ⟨z1, z2, z3⟩ := hz
  have l1 : ∀ K, f60_l15 g K n 0 = bif g.fNodes.any fun x => decide (len x.fVals > 30) then some 3 else K := fun K => by
    refine scanM g.fNodes K (fun x => decide (len x.fVals > 30)) (some 3) (f60_l15 g K) (fun m k hk => ?_) (fun m => ?_) z1 (by omega)
    · rw [f60_l15.eq_2]
      have h1 : decide ((k : Int) < len g.fNodes) = true := by simp [len]; omega
      rw [h1, gi_nat, List.getElem?_eq_getElem hk]; rfl
    · rw [f60_l15.eq_2]
      have h1 : decide ((g.fNodes.length : Int) < len g.fNodes) = false := by simp [len]
      rw [h1]; rfl
  have li : ∀ K (k : Nat) (hk : k < g.fNodes.length), f60_l96 g k n K n 0 = bif g.fNodes[k].fVals.any fun v => !valB v (len g.fNodes) then some 2 else K := fun K k hk => by
    have hg : gi g.fNodes (k : Int) = some g.fNodes[k] := by rw [gi_nat, List.getElem?_eq_getElem hk]
    have h2 := z3 _ (List.getElem_mem hk)
    refine scanM g.fNodes[k].fVals K (fun v => !valB v (len g.fNodes)) (some 2) (f60_l96 g k n K) (fun m j hj => ?_) (fun m => ?_) h2 (by omega)
    · rw [f60_l96.eq_2, hg]
      have h1 : decide ((j : Int) < len g.fNodes[k].fVals) = true := by simp [len]; omega
      simp only [Option.bind_some, h1, cond_true, gi_nat, List.getElem?_eq_getElem hj, f99_val]
    · rw [f60_l96.eq_2, hg]
      have h1 : decide ((g.fNodes[k].fVals.length : Int) < len g.fNodes[k].fVals) = false := by simp [len]
      simp only [Option.bind_some, h1, cond_false]
  have l2 : ∀ K, f60_l42 g n K n 0 = bif g.fNodes.any fun x => x.fVals.any fun v => !valB v (len g.fNodes) then some 2 else K := fun K => by
    refine scanM g.fNodes K (fun x => x.fVals.any fun v => !valB v (len g.fNodes)) (some 2) (f60_l42 g n K) (fun m k hk => ?_) (fun m => ?_) z1 (by omega)
    · rw [f60_l42.eq_2]
      have h1 : decide ((k : Int) < len g.fNodes) = true := by simp [len]; omega
      rw [h1, cond_true, li _ k hk]; rfl
    · rw [f60_l42.eq_2]
      have h1 : decide ((g.fNodes.length : Int) < len g.fNodes) = false := by simp [len]
      rw [h1]; rfl
  have l3 : ∀ K, f60_l137 g n K n 0 = bif g.fRoots.any fun v => !valB v (len g.fNodes) || !refersB v then some 2 else K := fun K => by
    refine scanM g.fRoots K (fun v => !valB v (len g.fNodes) || !refersB v) (some 2) (f60_l137 g n K) (fun m k hk => ?_) (fun m => ?_) z2 (by omega)
    · rw [f60_l137.eq_2]
      have h1 : decide ((k : Int) < len g.fRoots) = true := by simp [len]; omega
      rw [h1, gi_nat, List.getElem?_eq_getElem hk]
      simp only [cond_true, Option.bind_some, f99_val, f60_k171]
      unfold refersB bne
      cases valB g.fRoots[k] (len g.fNodes) <;> cases (g.fRoots[k].fKind == 3) <;> cases (g.fRoots[k].fKind == 4) <;> rfl
    · rw [f60_l137.eq_2]
      have h1 : decide ((g.fRoots.length : Int) < len g.fRoots) = false := by simp [len]
      rw [h1]; rfl
  unfold f60 f60_k6 f60_k12 f60_k39
  simp only [l1, l2, l3, f60_k134]
  unfold formedR
  cases decide (len g.fNodes > 400) <;> cases decide (len g.fRoots > 60) <;> cases (g.fNodes.any fun x => decide (len x.fVals > 30)) <;> cases (g.fNodes.any fun x => x.fVals.any fun v => !valB v (len g.fNodes)) <;> cases (g.fRoots.any fun v => !valB v (len g.fNodes) || !refersB v) <;> rfl
end Go.Proofs
end
section
namespace Go.Proofs
open Go.Vm
theorem f97_eq {n : Nat} {l : List Node} {F : List Form} (hn : l.length < n) (hF : F.length < n) (hN : n < 4611686018427387904) : f97 n l F = some (l.any fun x => decide (formIx F x.fClass < 0)) := by
  have f98_eq : ∀ x, f98 n x F = some (decide (formIx F x.fClass < 0)) := fun x => by unfold f98; rw [f52_eq hF (by omega)]; rfl
  have h : f135 n l F = some (ixOf (fun x => decide (formIx F x.fClass < 0)) l 0) := by
    unfold f135
    have := scan0 l f135_k4 (fun x y acc => bif decide (formIx F y.fClass < 0) then some x else acc) (f135_l8 l n F f135_k4) (fun m x => by rw [f135_l8.eq_2]; simp only [f98_eq, Option.bind_some]) (by omega) l.length 0 n (by omega) hn
    exact this.trans (go0_ix (fun x => decide (formIx F x.fClass < 0)) id l 0)
  unfold f97
  rw [h, Option.bind_some, ixOf_ge]
end Go.Proofs
end
section
namespace Go.Proofs
open Go.Vm
def suitsB (g : Graph) (c : Col) (v : Val) : Bool :=
  bif c.fKind == 1 then v.fKind == 1 else bif c.fKind == 2 then v.fKind == 2 else bif v.fKind == 3 then true else
  (v.fKind == 4) && (sEqF c.fClass (ByteArray.mk #[65, 78, 89]) || sEqF (((gi g.fNodes v.fN).map fun x => x.fClass).getD (ByteArray.mk #[])) c.fClass)
theorem gi_of_val {g : Graph} {v : Val} (hv : valB v (len g.fNodes) = true) (h4 : (v.fKind == 4) = true) (hn : g.fNodes.length < 4611686018427387904) : 0 ≤ v.fN ∧ ∃ x, gi g.fNodes v.fN = some x := by
  have hk : v.fKind = 4 := by simpa using h4
  unfold valB inR at hv
  rw [hk] at hv
  have hv' : (decide (0 ≤ v.fN) && decide (v.fN ≤ wr .i64 (len g.fNodes - 1))) = true := hv
  rw [wr_id (by unfold len; omega) (by unfold len; omega)] at hv'
  simp only [Bool.and_eq_true, decide_eq_true_eq] at hv'
  unfold len at hv'
  refine ⟨hv'.1, ?_⟩
  obtain ⟨m, hm⟩ := Int.eq_ofNat_of_zero_le hv'.1
  rw [hm, gi_nat, List.getElem?_eq_getElem (by omega)]
  exact ⟨_, rfl⟩
theorem f107_eq {g : Graph} {n : Nat} {c : Col} {v : Val} (hv : valB v (len g.fNodes) = true) (hn : g.fNodes.length < 4611686018427387904) : f107 n g c v = some (suitsB g c v) := by
  unfold f107 suitsB f107_k14
  cases h4 : (v.fKind == 4)
  · cases (c.fKind == 1) <;> cases (c.fKind == 2) <;> cases (v.fKind == 3) <;> rfl
  · obtain ⟨_, x, hx⟩ := gi_of_val hv h4 hn
    rw [hx]
    cases (c.fKind == 1) <;> cases (c.fKind == 2) <;> cases (v.fKind == 3) <;> cases sEqF c.fClass (ByteArray.mk #[65, 78, 89]) <;> rfl
theorem f61_eq {g : Graph} {n : Nat} {c : Col} {v : Val} (hv : valB v (len g.fNodes) = true) (hn : g.fNodes.length < 4611686018427387904) : f61 n c v g = some (suitsB g c v) := by
  unfold f61 suitsB f61_k18
  cases h4 : (v.fKind == 4)
  · cases (c.fKind == 1) <;> cases (c.fKind == 2) <;> cases (v.fKind == 3) <;> rfl
  · obtain ⟨h0, x, hx⟩ := gi_of_val hv h4 hn
    have hm : mxI 0 v.fN = v.fN := by unfold mxI; split <;> omega
    rw [hm, hx]
    cases (c.fKind == 1) <;> cases (c.fKind == 2) <;> cases (v.fKind == 3) <;> cases sEqF c.fClass (ByteArray.mk #[65, 78, 89]) <;> rfl
end Go.Proofs
end
section
namespace Go.Proofs
open Go.Vm
theorem gi_ix {L : List Form} {s : ByteArray} (h : decide (formIx L s < 0) = false) : ∃ f, gi L (formIx L s) = some f ∧ f ∈ L := by
  unfold formIx at h ⊢
  rw [ixOf_lt] at h
  have ha : L.any (fun x => sEqF x.fName s) = true := by simpa using h
  have := ixOf_bound (fun x => sEqF x.fName s) L 0 ha
  obtain ⟨m, hm⟩ := Int.eq_ofNat_of_zero_le (by have := this.1; simpa using this : 0 ≤ ixOf (fun x => sEqF x.fName s) L 0)
  rw [hm] at this ⊢
  rw [gi_nat, List.getElem?_eq_getElem (by have := this.2; simp at this; omega)]
  exact ⟨_, rfl, List.getElem_mem _⟩
def nodeB (L : List Form) (g : Graph) (x : Node) : Bool := match gi L (formIx L x.fClass) with
  | some f => (len x.fVals == len f.fCols) && (f.fCols.zip x.fVals).all fun p => suitsB g p.1 p.2
  | none => false
theorem f71_eq {L : List Form} {g : Graph} {n : Nat} (hz : FormSz n L) (hg : GraphSz n g) (hn : n < 4611686018427387904) (hv : ∀ x ∈ g.fNodes, ∀ v ∈ x.fVals, valB v (len g.fNodes) = true) (hc : ∀ x ∈ g.fNodes, decide (formIx L x.fClass < 0) = false) : f71 n L g = some (g.fNodes.all (nodeB L g)) := by
  obtain ⟨z1, z2, z3⟩ := hg
  have hL := hz.1
  have inner : ∀ (f : Form) (x : Node) (K : Option Bool), f ∈ L → x ∈ g.fNodes → (len x.fVals == len f.fCols) = true → f71_l86 f x n g K n 0 = bif (f.fCols.zip x.fVals).any (fun p => !suitsB g p.1 p.2) then some false else K := fun f x K hf hx hlen => by
    have he : x.fVals.length = f.fCols.length := by
      have h0 : (x.fVals.length : Int) = (f.fCols.length : Int) := eq_of_beq hlen
      omega
    have hzl : (f.fCols.zip x.fVals).length = f.fCols.length := by simp [he]
    have hfn := (hz.2 f hf).2.1
    refine scanM (f.fCols.zip x.fVals) K (fun p => !suitsB g p.1 p.2) (some false) (f71_l86 f x n g K) (fun m k hk => ?_) (fun m => ?_) (by omega) (by omega)
    · rw [f71_l86.eq_2]
      have h1 : decide ((k : Int) < len f.fCols) = true := by simp [len]; omega
      have hk1 : k < f.fCols.length := by omega
      have hk2 : k < x.fVals.length := by omega
      rw [h1, gi_nat, List.getElem?_eq_getElem hk1, gi_nat, List.getElem?_eq_getElem hk2]
      simp only [cond_true, Option.bind_some]
      rw [f107_eq (hv x hx _ (List.getElem_mem hk2)) (by omega)]
      simp only [Option.bind_some, List.getElem_zip]
    · rw [hzl, f71_l86.eq_2]
      have h1 : decide ((f.fCols.length : Int) < len f.fCols) = false := by simp [len]
      rw [h1]; rfl
  have outer : f71_l8 g n L f71_k4 n 0 = bif g.fNodes.any (fun x => !nodeB L g x) then some false else some true := by
    refine scanM g.fNodes (some true) (fun x => !nodeB L g x) (some false) (f71_l8 g n L f71_k4) (fun m k hk => ?_) (fun m => ?_) z1 (by omega)
    · rw [f71_l8.eq_2]
      have h1 : decide ((k : Int) < len g.fNodes) = true := by simp [len]; omega
      have hx := List.getElem_mem hk
      obtain ⟨f, hf1, hf2⟩ := gi_ix (hc _ hx)
      rw [h1, gi_nat, List.getElem?_eq_getElem hk]
      simp only [cond_true, Option.bind_some]
      rw [f52_eq hL (by omega), Option.bind_some, hf1, Option.bind_some]
      unfold nodeB
      rw [hf1]
      show _ = bif !((len g.fNodes[k].fVals == len f.fCols) && (f.fCols.zip g.fNodes[k].fVals).all fun p => suitsB g p.1 p.2) then _ else _
      unfold bne
      cases hlen : (len g.fNodes[k].fVals == len f.fCols)
      · rfl
      · rw [inner f _ _ hf2 hx hlen]
        have : ((f.fCols.zip g.fNodes[k].fVals).any fun p => !suitsB g p.1 p.2) = !((f.fCols.zip g.fNodes[k].fVals).all fun p => suitsB g p.1 p.2) := by rw [← List.not_all_eq_any_not]
        rw [this]; rfl
    · rw [f71_l8.eq_2]
      have h1 : decide ((g.fNodes.length : Int) < len g.fNodes) = false := by simp [len]
      rw [h1]; rfl
  unfold f71
  rw [outer]
  have : (g.fNodes.any fun x => !nodeB L g x) = !(g.fNodes.all (nodeB L g)) := by rw [← List.not_all_eq_any_not]
  rw [this]
  cases g.fNodes.all (nodeB L g) <;> rfl
end Go.Proofs
end
section
namespace Go.Proofs
open Go.Vm
theorem f19_a {L : List Form} {g : Graph} {K : Option Int} {n : Nat} (hL : L.length < n) (hg : GraphSz n g) (hn : n < 4611686018427387904) : f19_l21 g n L K n 0 = bif g.fNodes.any (fun x => decide (formIx L x.fClass < 0)) then some 4 else K := by
  obtain ⟨z1, _, _⟩ := hg
  refine scanM g.fNodes K (fun x => decide (formIx L x.fClass < 0)) (some 4) (f19_l21 g n L K) (fun m k hk => ?_) (fun m => ?_) z1 (by omega)
  · rw [f19_l21.eq_2]
    have h1 : decide ((k : Int) < len g.fNodes) = true := by simp [len]; omega
    rw [h1, gi_nat, List.getElem?_eq_getElem hk]
    simp only [cond_true, Option.bind_some]
    rw [f55_eq hL (by omega), Option.bind_some]
  · rw [f19_l21.eq_2]
    have h1 : decide ((g.fNodes.length : Int) < len g.fNodes) = false := by simp [len]
    rw [h1]; rfl
theorem f19_b {L : List Form} {g : Graph} {K : Option Int} {n : Nat} (hz : FormSz n L) (hg : GraphSz n g) (hn : n < 4611686018427387904) (hv : ∀ x ∈ g.fNodes, ∀ v ∈ x.fVals, valB v (len g.fNodes) = true) (hc : ∀ x ∈ g.fNodes, decide (formIx L x.fClass < 0) = false) : f19_l52 g n L K n 0 = bif g.fNodes.all (nodeB L g) then K else some 8 := by
  obtain ⟨z1, z2, z3⟩ := hg
  have hL := hz.1
  have inner : ∀ (f : Form) (i : Nat) (hi : i < g.fNodes.length) (K : Option Int), f ∈ L → (len f.fCols == len g.fNodes[i].fVals) = true → f19_l138 f g i n K n 0 = bif (f.fCols.zip g.fNodes[i].fVals).any (fun p => !suitsB g p.1 p.2) then some 8 else K := fun f i hi K hf hlen => by
    have he : f.fCols.length = g.fNodes[i].fVals.length := by
      have h0 : (f.fCols.length : Int) = (g.fNodes[i].fVals.length : Int) := eq_of_beq hlen
      omega
    have hzl : (f.fCols.zip g.fNodes[i].fVals).length = f.fCols.length := by simp [he]
    have hfn := (hz.2 f hf).2.1
    have hgi : gi g.fNodes (i : Int) = some g.fNodes[i] := by rw [gi_nat, List.getElem?_eq_getElem hi]
    refine scanM (f.fCols.zip g.fNodes[i].fVals) K (fun p => !suitsB g p.1 p.2) (some 8) (f19_l138 f g i n K) (fun m k hk => ?_) (fun m => ?_) (by omega) (by omega)
    · rw [f19_l138.eq_2]
      have h1 : decide ((k : Int) < len f.fCols) = true := by simp [len]; omega
      have hk1 : k < f.fCols.length := by omega
      have hk2 : k < g.fNodes[i].fVals.length := by omega
      rw [h1, gi_nat, List.getElem?_eq_getElem hk1, hgi]
      simp only [cond_true, Option.bind_some]
      rw [gi_nat, List.getElem?_eq_getElem hk2, Option.bind_some, f61_eq (hv _ (List.getElem_mem hi) _ (List.getElem_mem hk2)) (by omega)]
      simp only [Option.bind_some, List.getElem_zip]
    · rw [hzl, f19_l138.eq_2]
      have h1 : decide ((f.fCols.length : Int) < len f.fCols) = false := by simp [len]
      rw [h1]; rfl
  have outer : f19_l52 g n L K n 0 = bif g.fNodes.any (fun x => !nodeB L g x) then some 8 else K := by
    refine scanM g.fNodes K (fun x => !nodeB L g x) (some 8) (f19_l52 g n L K) (fun m k hk => ?_) (fun m => ?_) z1 (by omega)
    · rw [f19_l52.eq_2]
      have h1 : decide ((k : Int) < len g.fNodes) = true := by simp [len]; omega
      have hx := List.getElem_mem hk
      obtain ⟨f, hf1, hf2⟩ := gi_ix (hc _ hx)
      have hgi : gi g.fNodes (k : Int) = some g.fNodes[k] := by rw [gi_nat, List.getElem?_eq_getElem hk]
      rw [h1, hgi]
      simp only [cond_true, Option.bind_some]
      rw [f55_eq hL (by omega), Option.bind_some, hf1, Option.bind_some]
      unfold nodeB
      rw [hf1]
      show _ = bif !((len g.fNodes[k].fVals == len f.fCols) && (f.fCols.zip g.fNodes[k].fVals).all fun p => suitsB g p.1 p.2) then _ else _
      have hcomm : (len g.fNodes[k].fVals == len f.fCols) = (len f.fCols == len g.fNodes[k].fVals) := Bool.beq_comm
      rw [hcomm]
      unfold bne
      cases hlen : (len f.fCols == len g.fNodes[k].fVals)
      · rfl
      · rw [inner f k hk _ hf2 hlen]
        have : ((f.fCols.zip g.fNodes[k].fVals).any fun p => !suitsB g p.1 p.2) = !((f.fCols.zip g.fNodes[k].fVals).all fun p => suitsB g p.1 p.2) := by rw [← List.not_all_eq_any_not]
        rw [this]; rfl
    · rw [f19_l52.eq_2]
      have h1 : decide ((g.fNodes.length : Int) < len g.fNodes) = false := by simp [len]
      rw [h1]; rfl
  rw [outer]
  have : (g.fNodes.any fun x => !nodeB L g x) = !(g.fNodes.all (nodeB L g)) := by rw [← List.not_all_eq_any_not]
  rw [this]
  cases g.fNodes.all (nodeB L g) <;> rfl
end Go.Proofs
end
section
namespace Go.Proofs
open Go.Vm
theorem goN_tot {ρ : Type} (B : Nat → Option ρ → Option ρ) (N : Nat) (hB : ∀ k acc, k < N → (∃ r, acc = some r) → ∃ r, B k acc = some r) : ∀ (d k : Nat) (K : Option ρ), d + k = N → (∃ r, K = some r) → ∃ r, goN B K d k = some r
  | 0, k, K, _, h => h
  | d + 1, k, K, hk, h => hB k _ (by omega) (goN_tot B N hB d (k + 1) K (by omega) h)
theorem refB_tot (L : List Form) (l : List Col) (K : Option Int) (h : ∃ r, K = some r) : ∃ r, goN (refB L l) K l.length 0 = some r := by
  refine goN_tot (refB L l) l.length (fun k acc hk ⟨r, hr⟩ => ?_) l.length 0 K (by omega) h
  unfold refB
  rw [List.getElem?_eq_getElem hk, hr]
  show ∃ r', (bif _ then some 5 else some r) = some r'
  generalize ((l[k].fKind == 3) && (!(sEqF l[k].fClass (ByteArray.mk #[65, 78, 89])) && decide (formIx L l[k].fClass < 0))) = q
  cases q <;> exact ⟨_, rfl⟩
theorem f16_tot {l : List Form} {n : Nat} (hz : FormSz n l) (h9 : 100 < n) (hn : n < 4611686018427387904) : ∃ e, f16 n l = some e := by
  unfold f16 f16_k8
  rw [f16_l hz h9 hn, f16_l2 hz hn]
  have h2 : ∃ r, goN (refsB l) f16_k66 l.length 0 = some r := by
    refine goN_tot (refsB l) l.length (fun k acc hk h => ?_) l.length 0 _ (by omega) ⟨0, rfl⟩
    unfold refsB
    rw [List.getElem?_eq_getElem hk]
    exact refB_tot l l[k].fCols acc h
  have h1 : ∃ r, goN (formsB l) (goN (refsB l) f16_k66 l.length 0) l.length 0 = some r := by
    refine goN_tot (formsB l) l.length (fun k acc hk ⟨r, hr⟩ => ?_) l.length 0 _ (by omega) h2
    unfold formsB
    rw [List.getElem?_eq_getElem hk, hr]
    show ∃ r', (bif formE (l.take k) l[k] == 0 then some r else some (formE (l.take k) l[k])) = some r'
    cases formE (l.take k) l[k] == 0 <;> exact ⟨_, rfl⟩
  obtain ⟨r, hr⟩ := h1
  rw [hr]
  cases decide (len l > 24) <;> exact ⟨_, rfl⟩
end Go.Proofs
end
section
namespace Go.Proofs
open Go.Vm
theorem formed_vals {g : Graph} (h : (formedR g != 0) = false) : ∀ x ∈ g.fNodes, ∀ v ∈ x.fVals, valB v (len g.fNodes) = true := by
  intro x hx v hv
  unfold formedR at h
  have h2 : (g.fNodes.any fun x => x.fVals.any fun v => !valB v (len g.fNodes)) = false := by
    revert h
    cases (decide (len g.fNodes > 400) || decide (len g.fRoots > 60)) <;> cases (g.fNodes.any fun x => decide (len x.fVals > 30)) <;> cases (g.fNodes.any fun x => x.fVals.any fun v => !valB v (len g.fNodes)) <;> intro h <;> first | rfl | exact nomatch h
  have h3 := List.any_eq_false.1 h2 x hx
  have h4 : (x.fVals.any fun v => !valB v (len g.fNodes)) = false := by simpa using h3
  have h5 := List.any_eq_false.1 h4 v hv
  simpa using h5
theorem f18_f19 {L : List Form} {g : Graph} {n : Nat} (hz : FormSz n L) (hg : GraphSz n g) (h9 : 100 < n) (hn : n < 4611686018427387904) : ∃ e, f18 n L g = some e ∧ f19 n L g = some e := by
  obtain ⟨e, he⟩ := f16_tot hz h9 hn
  have hL := hz.1
  unfold f18 f19
  rw [← f16_f17 hz h9 hn, he]
  simp only [Option.bind_some, f59, f74_eq hg hn, f60_eq hg hn]
  cases h0 : (e != 0)
  · simp only [cond_false]
    cases hf : (formedR g != 0)
    · simp only [cond_false]
      rw [f97_eq hg.1 hL hn, f19_a hL hg hn]
      simp only [Option.bind_some]
      cases hc : (g.fNodes.any fun x => decide (formIx L x.fClass < 0))
      · have hc' : ∀ x ∈ g.fNodes, decide (formIx L x.fClass < 0) = false := fun x hx => by
          have := List.any_eq_false.1 hc x hx
          simpa using this
        have hv := formed_vals hf
        simp only [cond_false, f19_k18]
        rw [f71_eq hz hg hn hv hc', f19_b hz hg hn hv hc']
        simp only [Option.bind_some, f50_eq, f19_k49]
        cases g.fNodes.all (nodeB L g) <;> exact ⟨_, rfl, rfl⟩
      · exact ⟨_, rfl, rfl⟩
    · exact ⟨_, rfl, rfl⟩
  · exact ⟨_, rfl, rfl⟩
end Go.Proofs
end
section
namespace Go.Proofs
open Go.Vm
theorem f14_tot {g : Graph} {n : Nat} (hg : GraphSz n g) (hn : n < 4611686018427387904) : ∃ r, f14 n g = some r := by
  have hK : ∃ r, f14_k5 g = some r := by
    unfold f14_k5 f14_k42
    cases decide (len g.fNodes ≤ 30) <;> cases decide (len g.fRoots ≤ 10) <;> cases decide (len g.fRoots > 60) <;> cases decide (len g.fNodes > 400) <;> cases decide (len g.fNodes ≤ 410) <;> exact ⟨_, rfl⟩
  obtain ⟨K, hK⟩ := hK
  unfold f14
  rw [hK]
  have hl := hg.1
  refine scanTot g.fNodes.length (fun m (_ : Unit) k => f14_l8 g (some K) m k) (fun m k v hk => ?_) (fun m v => ?_) g.fNodes.length 0 n () (by omega) hl
  · show (∃ r, f14_l8 g (some K) (m + 1) k = some r) ∨ ∃ v' : Unit, f14_l8 g (some K) (m + 1) k = f14_l8 g (some K) m ((k + 1 : Nat) : Int)
    rw [f14_l8.eq_2]
    have h1 : decide ((k : Int) < len g.fNodes) = true := by simp [len]; omega
    have e0 : wr .i64 ((k : Int) + 1) = ((k + 1 : Nat) : Int) := by rw [wr_id (by omega) (by omega)]; omega
    rw [h1, gi_nat, List.getElem?_eq_getElem hk]
    simp only [cond_true, Option.bind_some, f14_k34, e0]
    cases decide (len g.fNodes[k].fVals > 8) <;> cases decide (len g.fNodes[k].fVals ≤ 30) <;> cases decide (len g.fNodes[k].fVals > 40) <;> first | exact .inl ⟨_, rfl⟩ | exact .inr ⟨(), rfl⟩
  · show ∃ r, f14_l8 g (some K) (m + 1) (g.fNodes.length : Int) = some r
    rw [f14_l8.eq_2]
    have h1 : decide ((g.fNodes.length : Int) < len g.fNodes) = false := by simp [len]
    rw [h1]; exact ⟨_, rfl⟩
end Go.Proofs
end
section
namespace Go.Proofs
open Go.Vm
theorem f13_tot {l : List Form} {n : Nat} (hz : FormSz n l) (hn : n < 4611686018427387904) : ∃ r, f13 n l = some r := by
  have hK : ∃ r, f13_k3 l = some r := by
    unfold f13_k3 f13_k128
    cases decide (len l ≤ 6) <;> cases decide (len l > 24) <;> exact ⟨_, rfl⟩
  obtain ⟨K, hK⟩ := hK
  have hl := hz.1
  have inner : ∀ (k : Nat) (hk : k < l.length) (A : Option Bool), (∃ r, f13_l90 l[k] l k A n 0 = some r) ∨ f13_l90 l[k] l k A n 0 = A := fun k hk A => by
    have hg : gi l (k : Int) = some l[k] := by rw [gi_nat, List.getElem?_eq_getElem hk]
    have hc := (hz.2 _ (List.getElem_mem hk)).2.1
    have key : ∀ (d j m : Nat), d + j = l[k].fCols.length → d < m → (∃ r, f13_l90 l[k] l k A m j = some r) ∨ f13_l90 l[k] l k A m j = A := by
      intro d
      induction d with
      | zero =>
        intro j m hj hm
        obtain ⟨m, rfl⟩ := Nat.exists_eq_succ_of_ne_zero (by omega : m ≠ 0)
        right
        rw [f13_l90.eq_2]
        have h1 : decide ((j : Int) < len l[k].fCols) = false := by simp [len]; omega
        rw [h1]; rfl
      | succ d ih =>
        intro j m hj hm
        obtain ⟨m, rfl⟩ := Nat.exists_eq_succ_of_ne_zero (by omega : m ≠ 0)
        have hj2 : j < l[k].fCols.length := by omega
        have h1 : decide ((j : Int) < len l[k].fCols) = true := by simp [len]; omega
        have e0 : wr .i64 ((j : Int) + 1) = ((j + 1 : Nat) : Int) := by rw [wr_id (by omega) (by omega)]; omega
        have := ih (j + 1) m (by omega) (by omega)
        rw [f13_l90.eq_2, h1, hg]
        simp only [cond_true, Option.bind_some, gi_nat, List.getElem?_eq_getElem hj2, f13_k115, e0]
        cases decide (bsz l[k].fCols[j].fName > 30) <;> cases decide (bsz l[k].fCols[j].fClass > 30) <;> first | exact this | exact .inl ⟨_, rfl⟩
    exact key l[k].fCols.length 0 n (by omega) hc
  unfold f13
  rw [hK]
  refine scanTot l.length (fun m (_ : Unit) k => f13_l6 l n (some K) m k) (fun m k v hk => ?_) (fun m v => ?_) l.length 0 n () (by omega) hl
  · show (∃ r, f13_l6 l n (some K) (m + 1) k = some r) ∨ ∃ v' : Unit, f13_l6 l n (some K) (m + 1) k = f13_l6 l n (some K) m ((k + 1 : Nat) : Int)
    rw [f13_l6.eq_2]
    have h1 : decide ((k : Int) < len l) = true := by simp [len]; omega
    have e0 : wr .i64 ((k : Int) + 1) = ((k + 1 : Nat) : Int) := by rw [wr_id (by omega) (by omega)]; omega
    have hg : gi l (k : Int) = some l[k] := by rw [gi_nat, List.getElem?_eq_getElem hk]
    rw [h1, hg]
    simp only [cond_true, Option.bind_some, f13_k79]
    have hi : (∃ r, f13_l90 l[k] l k (f13_k72 k (f13_l6 l n (some K) m)) n 0 = some r) ∨ f13_l90 l[k] l k (f13_k72 k (f13_l6 l n (some K) m)) n 0 = f13_l6 l n (some K) m ((k + 1 : Nat) : Int) := by
      have := inner k hk (f13_k72 k (f13_l6 l n (some K) m))
      rw [show f13_k72 (k : Int) (f13_l6 l n (some K) m) = f13_l6 l n (some K) m ((k + 1 : Nat) : Int) by unfold f13_k72; rw [e0]] at this ⊢
      exact this
    have hi2 : (∃ r, f13_l90 l[k] l k (f13_k72 k (f13_l6 l n (some K) m)) n 0 = some r) ∨ ∃ v' : Unit, f13_l90 l[k] l k (f13_k72 k (f13_l6 l n (some K) m)) n 0 = f13_l6 l n (some K) m ((k + 1 : Nat) : Int) := hi.imp id fun h => ⟨(), h⟩
    cases decide (bsz l[k].fName > 30) <;> cases decide (len l[k].fCols > 6) <;> cases decide (len l[k].fCols ≤ 30) <;> cases decide (len l[k].fCols > 40) <;> first | exact hi2 | exact .inl ⟨_, rfl⟩
  · show ∃ r, f13_l6 l n (some K) (m + 1) (l.length : Int) = some r
    rw [f13_l6.eq_2]
    have h1 : decide ((l.length : Int) < len l) = false := by simp [len]
    rw [h1]; exact ⟨_, rfl⟩
end Go.Proofs
end
section
namespace Go.Proofs
open Go.Vm
set_option maxRecDepth 1000000
theorem f15_true : f15 40 = some true := rfl
end Go.Proofs
end
section
set_option linter.unusedVariables false
namespace Go.Proofs
open Go.Vm
def codeR (v : Val) : Int := bif v.fKind == 3 then 0 else bif v.fKind == 4 then v.fN + 1 else v.fN
def encVals (l : List Val) : List Int := l.flatMap fun v => numB (codeR v)
def encNode (L : List Form) (x : Node) : List Int := numB (formIx L x.fClass) ++ encVals x.fVals
def encG (L : List Form) (g : Graph) : List Int := numB (len g.fNodes) ++ g.fNodes.flatMap (encNode L) ++ numB (len g.fRoots) ++ encVals g.fRoots
def encR (L : List Form) (g : Graph) : List Int × Int := bif decide (len (encG L (canG g)) + 4 > 60000) then ([], 3) else (encG L (canG g) ++ sum4 (sumL (encG L (canG g))), 0)
def Nm (v : Val) : Prop := -1099511627776 ≤ v.fN ∧ v.fN ≤ 1099511627776
theorem Nm.ok {v : Val} (h : Nm v) : numOk (codeR v) := by
  obtain ⟨h1, h2⟩ := h
  unfold codeR numOk
  cases v.fKind == 3 <;> cases v.fKind == 4 <;> simp <;> omega
structure NumG (g : Graph) : Prop where
  nd : g.fNodes.length ≤ 400
  rt : g.fRoots.length ≤ 60
  vl : ∀ x ∈ g.fNodes, x.fVals.length ≤ 30
  nv : ∀ x ∈ g.fNodes, ∀ v ∈ x.fVals, Nm v
  nr : ∀ v ∈ g.fRoots, Nm v
theorem flat_len {α : Type} {f : α → List Int} {c : Nat} : ∀ (l : List α), (∀ x ∈ l, (f x).length ≤ c) → (l.flatMap f).length ≤ c * l.length
  | [], _ => by simp
  | x :: l, h => by
    have h1 := h x (by simp)
    have h2 := flat_len l (fun y hy => h y (by simp [hy]))
    rw [List.flatMap_cons, List.length_append, List.length_cons, Nat.mul_succ]
    omega
theorem encVals_len (l : List Val) : (encVals l).length ≤ 10 * l.length := flat_len l (fun v _ => numB_len _)
theorem encNode_len (L : List Form) {x : Node} (h : x.fVals.length ≤ 30) : (encNode L x).length ≤ 310 := by
  have h1 := encVals_len x.fVals
  have h2 := numB_len (formIx L x.fClass)
  unfold encNode
  rw [List.length_append]
  omega
theorem bytes_app {a b : List Int} (h : Bytes a) (k : Bytes b) : Bytes (a ++ b) := fun c hc => by
  rcases List.mem_append.1 hc with hc | hc
  · exact h c hc
  · exact k c hc
theorem encVals_bytes (l : List Val) : Bytes (encVals l) := fun c hc => by
  obtain ⟨v, _, hv⟩ := List.mem_flatMap.1 hc
  exact numB_byte _ c hv
theorem encG_bytes (L : List Form) (g : Graph) : Bytes (encG L g) := by
  refine bytes_app (bytes_app (bytes_app (numB_byte _) (fun c hc => ?_)) (numB_byte _)) (encVals_bytes _)
  obtain ⟨x, _, hx⟩ := List.mem_flatMap.1 hc
  exact bytes_app (numB_byte _) (encVals_bytes _) c hx
theorem encG_len (L : List Form) {g : Graph} (h : NumG g) : (encG L g).length ≤ 200000 := by
  have h1 := encVals_len g.fRoots
  have h2 := flat_len (f := encNode L) g.fNodes (fun x hx => encNode_len L (h.vl x hx))
  have h3 := numB_len (len g.fNodes)
  have h4 := numB_len (len g.fRoots)
  have h5 := h.nd
  have h6 := h.rt
  unfold encG
  simp only [List.length_append]
  have : 310 * g.fNodes.length ≤ 310 * 400 := Nat.mul_le_mul_left _ h5
  omega
theorem ix_range {α : Type} (p : α → Bool) : ∀ (l : List α) (k : Nat), -1 ≤ ixOf p l k ∧ ixOf p l k < (k : Int) + l.length + 1
  | [], k => by simp [ixOf]; omega
  | x :: l, k => by
    unfold ixOf
    cases p x with
    | true => simp; omega
    | false =>
      have := ix_range p l (k + 1)
      simp only [cond_false, List.length_cons]
      omega
theorem formIx_ok {L : List Form} (h : L.length ≤ 1099511627770) (s : ByteArray) : numOk (formIx L s) := by
  have := ix_range (fun x : Form => sEqF x.fName s) L 0
  unfold formIx numOk
  omega
theorem len_ok {α : Type} {l : List α} (h : l.length ≤ 1000) : numOk (len l) := by unfold numOk len; omega
theorem flat_take {α : Type} {f : α → List Int} {l : List α} {k : Nat} (hk : k < l.length) : (l.take (k + 1)).flatMap f = (l.take k).flatMap f ++ f l[k] := by
  rw [List.take_add_one, List.getElem?_eq_getElem hk, List.flatMap_append]
  simp
theorem flat_take_len {α : Type} {f : α → List Int} {l : List α} {c : Nat} (h : ∀ x ∈ l, (f x).length ≤ c) (k : Nat) : ((l.take k).flatMap f).length ≤ c * l.length := by
  refine Nat.le_trans (flat_len _ (fun x hx => h x (List.mem_of_mem_take hx))) (Nat.mul_le_mul_left _ ?_)
  rw [List.length_take]; omega
theorem f65_eq (n : Nat) {v : Val} (h : Nm v) : f65 n v = some (codeR v) := by
  obtain ⟨h1, h2⟩ := h
  unfold f65 codeR
  rw [wr_id (by omega) (by omega)]
  cases v.fKind == 3 <;> cases v.fKind == 4 <;> rfl
section
variable {n : Nat} {L : List Form} {g : Graph}
theorem w63 {o : List Int} {x : Int} (h : numOk x) (hn : 500 < n) (ho : o.length ≤ 900000) : ((f64 n x).bind fun r => (app2 o r).bind fun l => some l) = some (o ++ numB x) := by
  have := numB_len x
  rw [f64_eq h hn]
  simp only [Option.bind_some]
  rw [app2_ok (by omega)]
  rfl
theorem p_vals {x : Node} {at_ : List Int} (hx : ∀ v ∈ x.fVals, Nm v) (hl : x.fVals.length ≤ 30) (hn : 500 < n) {o : List Int} (ho : o.length ≤ 800000) (K : List Int → Option (List Int × Int)) :
    f20_l87 x n (g, at_) K n 0 o = K (o ++ encVals x.fVals) := by
  have h := loopT (N := x.fVals.length) (fun m k s => f20_l87 x n (g, at_) K m k s) (fun s => K s) (fun k => o ++ (x.fVals.take k).flatMap fun v => numB (codeR v)) (fun m k hk => ?_) (fun m => ?_) x.fVals.length 0 n (by omega) (by omega)
  · rw [List.take_length] at h
    simpa [encVals] using h
  · show f20_l87 x n (g, at_) K (m + 1) (k : Int) _ = _
    have hv := hx _ (List.getElem_mem hk)
    have hlen := flat_take_len (f := fun v => numB (codeR v)) (l := x.fVals) (c := 10) (fun v _ => numB_len _) k
    rw [f20_l87.eq_2, lt_len hk, gi_get hk]
    simp only [cond_true, Option.bind_some]
    rw [f65_eq n hv]
    simp only [Option.bind_some, f63_c]
    rw [w63 hv.ok hn (by rw [List.length_append]; omega), wr_succ (by omega), flat_take hk, List.append_assoc]
    rfl
  · show f20_l87 x n (g, at_) K (m + 1) (x.fVals.length : Int) _ = _
    rw [f20_l87.eq_2, ge_len]
    rfl
theorem p_roots {at_ : List Int} (hz : NumG g) (hn : 500 < n) {o : List Int} (ho : o.length ≤ 800000) (K : List Int → Option (List Int × Int)) :
    f20_l124 (g, at_) n K n 0 o = K (o ++ encVals g.fRoots) := by
  have hr := hz.rt
  have h := loopT (N := g.fRoots.length) (fun m k s => f20_l124 (g, at_) n K m k s) (fun s => K s) (fun k => o ++ (g.fRoots.take k).flatMap fun v => numB (codeR v)) (fun m k hk => ?_) (fun m => ?_) g.fRoots.length 0 n (by omega) (by omega)
  · rw [List.take_length] at h
    simpa [encVals] using h
  · show f20_l124 (g, at_) n K (m + 1) (k : Int) _ = _
    have hv := hz.nr _ (List.getElem_mem hk)
    have hlen := flat_take_len (f := fun v => numB (codeR v)) (l := g.fRoots) (c := 10) (fun v _ => numB_len _) k
    rw [f20_l124.eq_2, show decide ((k : Int) < len (g, at_).1.fRoots) = true from lt_len hk, show gi (g, at_).1.fRoots (k : Int) = some g.fRoots[k] from gi_get hk]
    simp only [cond_true, Option.bind_some]
    rw [f65_eq n hv]
    simp only [Option.bind_some, f63_e]
    rw [w63 hv.ok hn (by rw [List.length_append]; omega), wr_succ (by omega), flat_take hk, List.append_assoc]
    rfl
  · show f20_l124 (g, at_) n K (m + 1) (g.fRoots.length : Int) _ = _
    rw [f20_l124.eq_2, show decide ((g.fRoots.length : Int) < len (g, at_).1.fRoots) = false from ge_len]
    rfl
theorem p_nodes {at_ : List Int} (hz : NumG g) (hL : L.length < n) (hL2 : L.length ≤ 2000000) (hn : 500 < n) {o : List Int} (ho : o.length ≤ 100) (K : List Int → Option (List Int × Int)) :
    f20_l24 (g, at_) n L K n 0 o = K (o ++ g.fNodes.flatMap (encNode L)) := by
  have hN := hz.nd
  have h := loopT (N := g.fNodes.length) (fun m k s => f20_l24 (g, at_) n L K m k s) (fun s => K s) (fun k => o ++ (g.fNodes.take k).flatMap (encNode L)) (fun m k hk => ?_) (fun m => ?_) g.fNodes.length 0 n (by omega) (by omega)
  · rw [List.take_length] at h
    simpa using h
  · show f20_l24 (g, at_) n L K (m + 1) (k : Int) _ = _
    have hx := List.getElem_mem hk
    have hlen := flat_take_len (f := encNode L) (l := g.fNodes) (c := 310) (fun x hx => encNode_len L (hz.vl x hx)) k
    have h310 : 310 * g.fNodes.length ≤ 310 * 400 := Nat.mul_le_mul_left _ hN
    rw [f20_l24.eq_2, show decide ((k : Int) < len (g, at_).1.fNodes) = true from lt_len hk, show gi (g, at_).1.fNodes (k : Int) = some g.fNodes[k] from gi_get hk]
    simp only [cond_true, Option.bind_some]
    rw [f52_eq hL (by omega)]
    simp only [Option.bind_some, f63_b]
    rw [w63 (formIx_ok (by omega) _) hn (by rw [List.length_append]; omega)]
    simp only [Option.bind_some]
    have hnb := numB_len (formIx L g.fNodes[k].fClass)
    rw [p_vals (hz.nv _ hx) (hz.vl _ hx) hn (by simp only [List.length_append]; omega)]
    unfold f20_k74
    rw [wr_succ (by omega), flat_take hk]
    simp only [encNode, List.append_assoc]
  · show f20_l24 (g, at_) n L K (m + 1) (g.fNodes.length : Int) _ = _
    rw [f20_l24.eq_2, show decide ((g.fNodes.length : Int) < len (g, at_).1.fNodes) = false from ge_len]
    rfl
end
theorem f20_eq {n : Nat} {L : List Form} {g : Graph} (h0 : f18 n L g = some 0) (hc : f62 n g = some (canG g, canAt g)) (hz : NumG (canG g)) (hL : L.length < n) (hL2 : L.length ≤ 2000000) (hn : 300000 < n) (hn2 : n < 4611686018427387904) :
    f20 n L g = some (encR L g) := by
  unfold f20
  rw [h0]
  simp only [Option.bind_some]
  rw [show ((0 : Int) != 0) = false from rfl, cond_false, hc]
  simp only [Option.bind_some, f63]
  have hN := hz.nd
  have hR := hz.rt
  have h1 := numB_len (len (canG g).fNodes)
  have h2 := numB_len (len (canG g).fRoots)
  rw [w63 (len_ok (by omega)) (by omega) (by simp)]
  simp only [Option.bind_some, List.nil_append]
  rw [p_nodes hz hL hL2 (by omega) (by omega)]
  unfold f20_k20 f63_d
  have hlen := flat_len (f := encNode L) (canG g).fNodes (fun x hx => encNode_len L (hz.vl x hx))
  have h310 : 310 * (canG g).fNodes.length ≤ 310 * 400 := Nat.mul_le_mul_left _ hN
  rw [w63 (len_ok (l := (canG g).fRoots) (by omega)) (by omega) (by rw [List.length_append]; omega)]
  simp only [Option.bind_some]
  rw [p_roots hz (by omega) (by simp only [List.length_append]; omega)]
  have hb := encG_bytes L (canG g)
  have hl := encG_len L hz
  have e : numB (len (canG g).fNodes) ++ (canG g).fNodes.flatMap (encNode L) ++ numB (len (canG g).fRoots) ++ encVals (canG g).fRoots = encG L (canG g) := rfl
  rw [e]
  unfold f20_k120
  rw [f66_eq hb (by omega) hn2]
  simp only [Option.bind_some]
  have h4 : (sum4 (sumL (encG L (canG g)))).length = 4 := rfl
  rw [app2_ok (by omega)]
  simp only [Option.bind_some]
  unfold encR
  have e2 : len (encG L (canG g) ++ sum4 (sumL (encG L (canG g)))) = len (encG L (canG g)) + 4 := by unfold len; rw [List.length_append, h4]; omega
  rw [e2]
  cases decide (len (encG L (canG g)) + 4 > 60000) <;> rfl
section
variable {n : Nat} {L : List Form} {g : Graph}
theorem f69_eq {o a1 : List Int} {a3 : Int} {a4 : List Node} {a5 : List Val} {v : Val} (h : Nm v) (hn : 500 < n) (ho : o.length ≤ 900000) : f69 n a1 o a3 a4 a5 v.fKind v.fN = some (o ++ numB (codeR v)) := by
  obtain ⟨h1, h2⟩ := id h
  have e := h.ok
  unfold f69
  rw [wr_id (by omega) (by omega)]
  unfold codeR at e ⊢
  revert e
  cases v.fKind == 3 <;> cases v.fKind == 4 <;> intro e <;> simp only [cond_true, cond_false] at e ⊢ <;> rw [f68_c_eq e hn ho] <;> rfl
theorem r_vals {at_ : List Int} {e : Int} {k0 : Nat} (hk0 : k0 < g.fNodes.length) (hx : ∀ v ∈ g.fNodes[k0].fVals, Nm v) (hl : g.fNodes[k0].fVals.length ≤ 30) (hn : 500 < n) {o : List Int} (ho : o.length ≤ 800000) (K : List Int → Option BE) :
    f21_l86 ⟨g, at_, e⟩ (k0 : Int) n K n 0 o = K (o ++ encVals g.fNodes[k0].fVals) := by
  have h := loopT (N := g.fNodes[k0].fVals.length) (fun m k s => f21_l86 ⟨g, at_, e⟩ (k0 : Int) n K m k s) (fun s => K s) (fun k => o ++ (g.fNodes[k0].fVals.take k).flatMap fun v => numB (codeR v)) (fun m k hk => ?_) (fun m => ?_) g.fNodes[k0].fVals.length 0 n (by omega) (by omega)
  · rw [List.take_length] at h
    simpa [encVals] using h
  · show f21_l86 ⟨g, at_, e⟩ (k0 : Int) n K (m + 1) (k : Int) _ = _
    have hv := hx _ (List.getElem_mem hk)
    have hlen := flat_take_len (f := fun v => numB (codeR v)) (l := g.fNodes[k0].fVals) (c := 10) (fun v _ => numB_len _) k
    rw [f21_l86.eq_2]
    simp only []
    rw [gi_get hk0]
    simp only [Option.bind_some]
    rw [lt_len hk, gi_get hk]
    simp only [cond_true, Option.bind_some]
    rw [f69_eq hv hn (by rw [List.length_append]; omega)]
    simp only [Option.bind_some]
    rw [wr_succ (by omega), flat_take hk, List.append_assoc]
  · show f21_l86 ⟨g, at_, e⟩ (k0 : Int) n K (m + 1) (g.fNodes[k0].fVals.length : Int) _ = _
    rw [f21_l86.eq_2]
    simp only []
    rw [gi_get hk0]
    simp only [Option.bind_some]
    rw [ge_len]
    rfl
theorem r_roots {at_ : List Int} {e : Int} (hz : NumG g) (hn : 500 < n) {o : List Int} (ho : o.length ≤ 800000) (K : List Int → Option BE) :
    f21_l126 ⟨g, at_, e⟩ n K n 0 o = K (o ++ encVals g.fRoots) := by
  have hr := hz.rt
  have h := loopT (N := g.fRoots.length) (fun m k s => f21_l126 ⟨g, at_, e⟩ n K m k s) (fun s => K s) (fun k => o ++ (g.fRoots.take k).flatMap fun v => numB (codeR v)) (fun m k hk => ?_) (fun m => ?_) g.fRoots.length 0 n (by omega) (by omega)
  · rw [List.take_length] at h
    simpa [encVals] using h
  · show f21_l126 ⟨g, at_, e⟩ n K (m + 1) (k : Int) _ = _
    have hv := hz.nr _ (List.getElem_mem hk)
    have hlen := flat_take_len (f := fun v => numB (codeR v)) (l := g.fRoots) (c := 10) (fun v _ => numB_len _) k
    rw [f21_l126.eq_2]
    simp only []
    rw [lt_len hk, gi_get hk]
    simp only [cond_true, Option.bind_some]
    rw [f69_eq hv hn (by rw [List.length_append]; omega)]
    simp only [Option.bind_some]
    rw [wr_succ (by omega), flat_take hk, List.append_assoc]
  · show f21_l126 ⟨g, at_, e⟩ n K (m + 1) (g.fRoots.length : Int) _ = _
    rw [f21_l126.eq_2]
    simp only []
    rw [ge_len]
    rfl
theorem r_nodes {at_ : List Int} {e : Int} (hz : NumG g) (hL : L.length < n) (hL2 : L.length ≤ 2000000) (hn : 500 < n) {o : List Int} (ho : o.length ≤ 100) (K : List Int → Option BE) :
    f21_l21 ⟨g, at_, e⟩ n L K n 0 o = K (o ++ g.fNodes.flatMap (encNode L)) := by
  have hN := hz.nd
  have h := loopT (N := g.fNodes.length) (fun m k s => f21_l21 ⟨g, at_, e⟩ n L K m k s) (fun s => K s) (fun k => o ++ (g.fNodes.take k).flatMap (encNode L)) (fun m k hk => ?_) (fun m => ?_) g.fNodes.length 0 n (by omega) (by omega)
  · rw [List.take_length] at h
    simpa using h
  · show f21_l21 ⟨g, at_, e⟩ n L K (m + 1) (k : Int) _ = _
    have hx := List.getElem_mem hk
    have hlen := flat_take_len (f := encNode L) (l := g.fNodes) (c := 310) (fun x hx => encNode_len L (hz.vl x hx)) k
    have h310 : 310 * g.fNodes.length ≤ 310 * 400 := Nat.mul_le_mul_left _ hN
    rw [f21_l21.eq_2]
    simp only []
    rw [lt_len hk, gi_get hk]
    simp only [cond_true, Option.bind_some]
    rw [f55_eq hL (by omega)]
    simp only [Option.bind_some]
    rw [f68_b_eq (formIx_ok (by omega) _) hn (by rw [List.length_append]; omega)]
    simp only [Option.bind_some]
    have hnb := numB_len (formIx L g.fNodes[k].fClass)
    rw [r_vals hk (hz.nv _ hx) (hz.vl _ hx) hn (by simp only [List.length_append]; omega)]
    unfold f21_k75
    rw [wr_succ (by omega), flat_take hk]
    simp only [encNode, List.append_assoc]
  · show f21_l21 ⟨g, at_, e⟩ n L K (m + 1) (g.fNodes.length : Int) _ = _
    rw [f21_l21.eq_2]
    simp only []
    rw [ge_len]
    rfl
end
theorem f21_eq {n : Nat} {L : List Form} {g : Graph} (h0 : f19 n L g = some 0) (hc : f67 n g = some ⟨canG g, canAt g, 0⟩) (hz : NumG (canG g)) (hL : L.length < n) (hL2 : L.length ≤ 2000000) (hn : 300000 < n) (hn2 : n < 4611686018427387904) :
    f21 n L g = some ⟨(encR L g).1, (encR L g).2⟩ := by
  unfold f21
  rw [h0]
  simp only [Option.bind_some]
  rw [show ((0 : Int) != 0) = false from rfl, cond_false, hc]
  simp only [Option.bind_some]
  have hN := hz.nd
  have hR := hz.rt
  have h1 := numB_len (len (canG g).fNodes)
  have h2 := numB_len (len (canG g).fRoots)
  rw [f68_eq (len_ok (by omega)) (by omega) (by simp)]
  simp only [Option.bind_some, List.nil_append]
  rw [r_nodes hz hL hL2 (by omega) (by omega)]
  unfold f21_k18
  have hlen := flat_len (f := encNode L) (canG g).fNodes (fun x hx => encNode_len L (hz.vl x hx))
  have h310 : 310 * (canG g).fNodes.length ≤ 310 * 400 := Nat.mul_le_mul_left _ hN
  rw [f68_b_eq (len_ok (l := (canG g).fRoots) (by omega)) (by omega) (by rw [List.length_append]; omega)]
  simp only [Option.bind_some]
  rw [r_roots hz (by omega) (by simp only [List.length_append]; omega)]
  have hb := encG_bytes L (canG g)
  have hl := encG_len L hz
  have e : numB (len (canG g).fNodes) ++ (canG g).fNodes.flatMap (encNode L) ++ numB (len (canG g).fRoots) ++ encVals (canG g).fRoots = encG L (canG g) := rfl
  rw [e]
  unfold f21_k123
  have e2 : wr .i64 (len (encG L (canG g)) + 4) = len (encG L (canG g)) + 4 := by unfold len; rw [wr_id (by omega) (by omega)]
  rw [e2, f25_eq hb (by omega) (by omega) hn2]
  simp only [Option.bind_some]
  unfold encR
  cases decide (len (encG L (canG g)) + 4 > 60000) <;> rfl
end Go.Proofs
end
