/- Texts of this claim, one behind the other. -/
import Derived.Test.YtbdgamoicleieaaPfb
import Derived.Test.YtbdgamoicleieaaProg
import Derived.KernelRfl
import Derived.RangeFuncBox
import Derived.RangeFuncLeaves
import Derived.Shelf.Abstract
import Derived.WalkKit
import Derived.OwnWalkIn
import Derived.TacticsInMore
import Derived.LoopNIn
import Derived.LoopIn
set_option linter.unusedVariables false
set_option linter.unusedSimpArgs false
section
-- the Vm layer, 32: a range over a function, as a fold
set_option linter.unusedVariables false
set_option linter.unusedSimpArgs false
namespace Go.Vm
open Go.RowKit
def foldB {β σ : Type} (B : β → σ → Option σ) : List β → σ → Option σ
  | [], x => some x
  | y :: l, x => (B y x).bind (foldB B l)
section
variable {P : Program} {m0 : Nat} {R N : St → Prop} {E : Nat → St → Prop} {tm : List AV} {hp : Heap} {x : Arg} {ps : List Nat} {mv : List (Nat × Nat)} {b : IC} {g : Nat} {caps caps' : List AV}
theorem rf {β σ ρ : Type} {r : ρ} (S : σ → Heap) (B : β → σ → Option σ) (mu : σ → Nat) (bnd : Nat) (xs : List β) (enc : β → List AV) (x0 : σ) (K : σ → Option ρ)
    (h : (bif Nat.ble (mu x0 + xs.length) bnd then (foldB B xs x0).bind K else none) = some r)
    (hI : IterSpec P g caps' (xs.map enc)) (hz : FzL hp [] caps caps') (he : ∀ y, (enc y).length = ps.length ∧ ∀ a ∈ enc y, (toV a).isSome = true) (hinj : ∀ y y', enc y = enc y' → y = y')
    (hlow : ∀ x, (S x).length = (S x0).length ∧ lowOf (S x0) (S x))
    (hB : ∀ y x, mu x < bnd → ∃ x', B y x = some x' ∧ mu x' ≤ mu x + 1)
    (hbody : ∀ y x x', B y x = some x' → ∀ (R' : St → Prop) (E' : Nat → St → Prop) (N' : St → Prop), (∀ s', cutHp (S x0).length s'.hp (S x') → N' s') → vC P (S x0).length R' b E' N' ⟨moveAll (setAll tm ps (enc y)) mv, S x⟩)
    (hN : ∀ x, K x = some r → N ⟨tm, S x⟩) (hx : St.ev ⟨tm, hp⟩ x = .fn g caps := by kernel_rfl) (h0 : hp = S x0 := by kernel_rfl) : vC P m0 R (.rfun x ps mv b) E N ⟨tm, hp⟩ := by
  cases hc : Nat.ble (mu x0 + xs.length) bnd with
  | false => rw [hc] at h; cases h
  | true =>
    rw [hc] at h
    simp only [cond_true] at h
    have hle := Nat.le_of_ble_eq_true hc
    subst h0
    refine ⟨g, caps, caps', xs.map enc, fun ys hp => ∃ x, hp = S x ∧ mu x ≤ mu x0 + ys.length ∧ ∀ pre rest, xs = pre ++ rest → pre.map enc = ys → foldB B rest x = foldB B xs x0, hx, hz, hI, ?_, ?_, ?_, ?_, ?_⟩
    · intro y hy
      obtain ⟨y', _, rfl⟩ := List.mem_map.1 hy
      exact he y'
    · refine ⟨x0, rfl, by simp, fun pre rest hxs hpre => ?_⟩
      have : pre = [] := by simpa using hpre
      subst this
      rw [hxs]; rfl
    · rintro ys hp ⟨x, rfl, _, _⟩
      exact hlow x
    · rintro ys y hp ⟨x, rfl, hm, hf⟩ hy hlt
      obtain ⟨y', _, rfl⟩ := List.mem_map.1 hy
      simp only [List.length_map] at hlt
      obtain ⟨x', hx', hm'⟩ := hB y' x (by omega)
      refine hbody y' x x' hx' _ _ _ (fun s' hcut => ⟨S x', hcut, x', rfl, by simp; omega, fun pre rest hxs hpre => ?_⟩)
      obtain ⟨pre1, b', rfl⟩ : ∃ pre1 b', pre = pre1 ++ [b'] := by
        rcases List.eq_nil_or_concat pre with rfl | ⟨p, q, rfl⟩
        · simp at hpre
        · exact ⟨p, q, by simp⟩
      rw [List.map_append, List.map_cons, List.map_nil] at hpre
      have hp1 := List.append_inj' hpre rfl
      have hb : b' = y' := hinj _ _ (by have := hp1.2; simpa using this)
      subst hb
      have h5 := hf pre1 (b' :: rest) (by rw [hxs]; simp) hp1.1
      rw [← h5]
      show _ = (B b' x).bind (foldB B rest)
      rw [hx']; rfl
    · rintro hp ⟨x, rfl, hm, hf⟩
      have h5 := hf xs [] (by simp) rfl
      have h6 : foldB B xs x0 = some x := h5.symm
      rw [h6] at h
      exact hN x h
end
theorem low_of {h0 h : Heap} (hs : h0.length = h.length) (h1 : ∀ (o : Nat) x, h[o]? = some (some x) → nonB x = true → ∃ x0, h0[o]? = some (some x0) ∧ stab x0 = true) : h.length = h0.length ∧ lowOf h0 h := ⟨hs.symm, h1⟩
/-- Objects that are no cells stand where such stood. -/
def lowB : Heap → Heap → Bool
  | _, [] => true
  | x :: l, y :: l' => (match y with
    | some z => (match nonB z with
      | true => (match x with | some z0 => stab z0 | none => false)
      | false => true)
    | none => true) && lowB l l'
  | [], y :: l' => (match y with | some z => !nonB z | none => true) && lowB [] l'
theorem lowB_ok : ∀ {h0 h : Heap}, lowB h0 h = true → lowOf h0 h
  | h0, [], _ => fun o x hx => by simp at hx
  | x0 :: l, y :: l', hb => fun o x hx hn => by
    simp only [lowB, Bool.and_eq_true] at hb
    cases o with
    | zero =>
      simp only [List.getElem?_cons_zero, Option.some.injEq] at hx
      subst hx
      simp only [hn] at hb
      cases x0 with
      | none => simp at hb
      | some z => exact ⟨z, rfl, by simpa using hb.1⟩
    | succ o =>
      simp only [List.getElem?_cons_succ] at hx
      obtain ⟨z, h1, h2⟩ := lowB_ok hb.2 o x hx hn
      exact ⟨z, by simpa using h1, h2⟩
  | [], y :: l', hb => fun o x hx hn => by
    simp only [lowB, Bool.and_eq_true] at hb
    cases o with
    | zero =>
      simp only [List.getElem?_cons_zero, Option.some.injEq] at hx
      subst hx
      simp [hn] at hb
    | succ o =>
      simp only [List.getElem?_cons_succ] at hx
      obtain ⟨z, h1, h2⟩ := lowB_ok hb.2 o x hx hn
      simp at h1
end Go.Vm
end
section
-- the Vm layer, 33: rows that hold rows; texts compared and made
set_option linter.unusedVariables false
set_option linter.unusedSimpArgs false
namespace Go.Vm
open Go.RowKit
def sEqF (a b : ByteArray) : Bool := a.data.toList == b.data.toList
theorem sEq_F (a b : ByteArray) : (a.toList == b.toList) = sEqF a b := by
  unfold sEqF
  rw [ByteArray.toList_eq, ByteArray.toList_eq]
theorem str_eql {P : Program} {t : TypeId} (a b : ByteArray) : scRun P (.bin .eql t) [.string a, .string b] = some (.bool (sEqF a b)) := by
  rw [← sEq_F]; rfl
theorem str_neq {P : Program} {t : TypeId} (a b : ByteArray) : scRun P (.bin .neq t) [.string a, .string b] = some (.bool (!sEqF a b)) := by
  rw [← sEq_F]; rfl
def FzLL (hp : Heap) (T : List Nat) : List (List AV) → List (List AV) → Prop
  | [], [] => True
  | a :: l, b :: l' => FzL hp T a b ∧ FzLL hp T l l'
  | _, _ => False
section
variable {hp : Heap} {T : List Nat}
theorem fzLL_get : ∀ {xs ys : List (List AV)}, FzLL hp T xs ys → xs.length = ys.length ∧ ∀ (j : Nat) cs ds, xs[j]? = some cs → ys[j]? = some ds → FzL hp T cs ds
  | [], [], _ => ⟨rfl, fun j cs ds h => by simp at h⟩
  | a :: l, b :: l', h => ⟨by simp [(fzLL_get h.2).1], fun j cs ds h1 h2 => by
    cases j with
    | zero => simp at h1 h2; subst h1 h2; exact h.1
    | succ j => simp at h1 h2; exact (fzLL_get h.2).2 j cs ds h1 h2⟩
  | [], _ :: _, h => h.elim
  | _ :: _, [], h => h.elim
theorem fz_ownX {o n : Nat} {t : TypeId} {sz : Nat} {xs ys : List (List AV)} (h : FzLL hp T xs ys) (ho : T.contains o = true := by kernel_rfl) (hh : hp[o]? = some (some (.row t sz xs)) := by kernel_rfl) (hn : xs.length = n := by kernel_rfl) : Fz hp T (.own o n) (.sl ys) :=
  .own o n t sz xs ys (by simpa using ho) hh hn (fzLL_get h).1 (fun j cs ds h1 h2 => (fzL_get' ((fzLL_get h).2 j cs ds h1 h2)).1) (fun j cs ds i a b h1 h2 h3 h4 => (fzL_get' ((fzLL_get h).2 j cs ds h1 h2)).2 i a b h3 h4)
end
section
variable {P : Program} {s : St} {x i y xa ya : Arg} {o n m k off t sz : Nat} {rows : List (List AV)} {cs ds : List AV} {ki : IntKind} {j : Nat}
theorem one_bslF (xs rows : List (List AV)) {ps : List Arg} (hx : (ps.mapM fun x => cellsA (s.ev x)) = some xs := by kernel_rfl) (hs : (xs.all fun cs => Nat.beq cs.length sz) = true := by kernel_rfl) (hy : chunk sz xs.length xs.flatten = rows := by kernel_rfl) :
    One P s (.bsl 0 false t sz ps) (.own s.hp.length xs.length) (s.hp ++ [some (.row t sz rows)]) := by
  refine one_of fun Q hQ => ?_
  simp only [vK, hx]
  refine ⟨fun cs hcs => Nat.eq_of_beq_eq_true (List.all_eq_true.1 hs cs hcs), fun h => (by cases h), ?_⟩
  simp only [frz, Bool.false_eq_true, if_false, mkAt, mkHp, spot, if_true, Option.getD_none, hy]
  exact hQ
theorem one_iaX (hx : s.ev x = .own o m := by kernel_rfl) (hi : s.ev i = .val (.int ki (Int.ofNat j)) := by kernel_rfl) (hh : s.hp[o]? = some (some (.row t sz rows)) := by kernel_rfl) (hm : rows.length = m := by kernel_rfl) (hj : Nat.blt j m = true := by kernel_rfl) : One P s (.iaddr sz x i) (.eptr o m j 0) s.hp := by
  refine one_of fun Q hQ => ?_
  have hj' : j < m := by simpa [Nat.blt_eq] using hj
  simp only [vK, hx, hi, hh]
  exact ⟨Int.natCast_nonneg j, by simpa using hj', trivial, hm, hQ⟩
theorem one_faX {off : Nat} (hx : s.ev xa = .eptr o m j k := by kernel_rfl) (hh : s.hp[o]? = some (some (.row t sz rows)) := by kernel_rfl) (hm : rows.length = m := by kernel_rfl) : One P s (.faddr xa off) (.eptr o m j (k + off)) s.hp := by
  refine one_of fun Q hQ => ?_
  simp only [vK, hx, hh]
  exact ⟨hm, hQ⟩
theorem one_ldX {st : Bool} (hx : s.ev xa = .eptr o m j k := by kernel_rfl) (hh : s.hp[o]? = some (some (.row t sz rows)) := by kernel_rfl) (hm : rows.length = m := by kernel_rfl) (hc : rows[j]? = some cs := by kernel_rfl) (hk : Nat.ble (k + n) cs.length = true := by kernel_rfl) : One P s (.ld xa n st) (pk st ((cs.drop k).take n)) s.hp := by
  refine one_of fun Q hQ => ?_
  simp only [vK, hx, hh, hc]
  exact ⟨hm, Nat.le_of_ble_eq_true hk, hQ⟩
theorem one_bstr {l : List Int} (hx : asL s.hp (s.ev x) = some (l.map (cK .u8)) := by kernel_rfl) : One P s (.bstr x) (.val (.string (bytesOf l))) s.hp := by
  refine one_of fun Q hQ => ?_
  exact ⟨l, hx, hQ⟩
/-- A store through a pointer to an element: rows may stand in it. -/
theorem one_stEF {α : Type} {f : α → List AV} {l : List α} {e z : α} {ji : Int} {nl : List (Nat × Nat × Nat × Nat)} (hg : gi l ji = some e) (hz : splice (f e) k ds = f z := by kernel_rfl) (hk : Nat.ble (k + n) (f e).length = true := by kernel_rfl) (hn : ds.length = n := by kernel_rfl) (hx : s.ev xa = .eptr o l.length ji.toNat k := by kernel_rfl) (hh : s.hp[o]? = some (some (.row t sz (l.map f))) := by kernel_rfl) (hy : cellsA (s.ev ya) = some ds := by kernel_rfl) :
    One P s (.st false n nl xa ya) (.val undef) (s.hp.set o (some (.row t sz ((setI l ji z).map f)))) := by
  obtain ⟨h0, h1⟩ := gi_some hg
  refine one_of fun Q hQ => ?_
  simp only [vK, hy, hx, hh]
  refine ⟨hn, by simp, fun h => (by cases h), ?_⟩
  rw [List.getElem?_map, h1]
  simp only [frz, Bool.false_eq_true, if_false, Option.map_some]
  refine ⟨Nat.le_of_ble_eq_true hk, hh, ?_⟩
  rw [hz]
  have e2 : (l.map f).set ji.toNat (f z) = (setI l ji z).map f := by unfold setI; rw [List.map_set]
  rw [e2]; exact hQ
end
end Go.Vm
end
section
set_option linter.unusedVariables false
set_option maxRecDepth 100000
set_option maxHeartbeats 4000000
namespace Go.Proofs
open Go.Vm
attribute [local irreducible] vOps vDraw vC vK retP retH PureSpec HSpec
def H0 : Hint := ⟨[22, 77, 68, 69, 103, 66, 25], [], true⟩
def H22 : Hint := ⟨[22, 77, 68, 69, 103, 66, 25], [5], true⟩
def H77 : Hint := ⟨[22, 77, 68, 69, 103, 66, 25], [5], true⟩
def H67 : Hint := ⟨[22, 77, 68, 69, 103, 66, 25], [115], true⟩
def H32 : Hint := ⟨[22, 77, 68, 69, 103, 66, 25], [117], true⟩
def H25 : Hint := ⟨[22, 77, 68, 69, 103, 66, 25], [6], true⟩
def H62 : Hint := ⟨[22, 77, 68, 69, 103, 66, 25], [68, 38, 66], true⟩
def H15 : Hint := ⟨[22, 77, 68, 69, 103, 66, 25], [47, 52], false⟩
theorem hmix : Try.prog.follows .mixedOrders = true := by kernel_rfl
structure Val where
  fKind : Int
  fN : Int
def Val.c (x : Val) : List AV := [(vI x.fKind), (vI x.fN)]
theorem Val.p : PortF Val.c := fun _ => rfl
def Val.eqB (a b : Val) : Bool := (a.fKind == b.fKind) && ((a.fN == b.fN) && (true))
structure Node where
  fClass : ByteArray
  fVals : (List Val)
def Node.c (x : Node) : List AV := [(vS x.fClass), (vL Val.c x.fVals)]
theorem Node.p : PortF Node.c := fun _ => rfl
structure Graph where
  fNodes : (List Node)
  fRoots : (List Val)
def Graph.c (x : Graph) : List AV := [(vL Node.c x.fNodes), (vL Val.c x.fRoots)]
theorem Graph.p : PortF Graph.c := fun _ => rfl
structure BE where
  fB : (List Int)
  fE : Int
def BE.c (x : BE) : List AV := [(vL (cK .u8) x.fB), (vI x.fE)]
theorem BE.p : PortF BE.c := fun _ => rfl
structure Refusal where
  fNode : Int
  fCol : ByteArray
def Refusal.c (x : Refusal) : List AV := [(vI x.fNode), (vS x.fCol)]
theorem Refusal.p : PortF Refusal.c := fun _ => rfl
def Refusal.eqB (a b : Refusal) : Bool := (a.fNode == b.fNode) && ((a.fCol == b.fCol) && (true))
structure GAtE where
  fG : Graph
  fAt : (List Int)
  fE : Int
def GAtE.c (x : GAtE) : List AV := [(vL Node.c x.fG.fNodes), (vL Val.c x.fG.fRoots), (vL cI x.fAt), (vI x.fE)]
theorem GAtE.p : PortF GAtE.c := fun _ => rfl
structure IsE where
  fIs : Bool
  fE : Int
def IsE.c (x : IsE) : List AV := [(vB x.fIs), (vI x.fE)]
theorem IsE.p : PortF IsE.c := fun _ => rfl
def IsE.eqB (a b : IsE) : Bool := (a.fIs == b.fIs) && ((a.fE == b.fE) && (true))
structure Col where
  fName : ByteArray
  fKind : Int
  fClass : ByteArray
def Col.c (x : Col) : List AV := [(vS x.fName), (vI x.fKind), (vS x.fClass)]
theorem Col.p : PortF Col.c := fun _ => rfl
def Col.eqB (a b : Col) : Bool := (a.fName == b.fName) && ((a.fKind == b.fKind) && ((a.fClass == b.fClass) && (true)))
structure Form where
  fName : ByteArray
  fCols : (List Col)
def Form.c (x : Form) : List AV := [(vS x.fName), (vL Col.c x.fCols)]
theorem Form.p : PortF Form.c := fun _ => rfl
structure Give where
  fFrom : ByteArray
  fHow : Int
  fN : Int
def Give.c (x : Give) : List AV := [(vS x.fFrom), (vI x.fHow), (vI x.fN)]
theorem Give.p : PortF Give.c := fun _ => rfl
def Give.eqB (a b : Give) : Bool := (a.fFrom == b.fFrom) && ((a.fHow == b.fHow) && ((a.fN == b.fN) && (true)))
structure Rule where
  fClass : ByteArray
  fTo : ByteArray
  fGives : (List Give)
def Rule.c (x : Rule) : List AV := [(vS x.fClass), (vS x.fTo), (vL Give.c x.fGives)]
theorem Rule.p : PortF Rule.c := fun _ => rfl
structure KE where
  fK : Int
  fE : Int
def KE.c (x : KE) : List AV := [(vI x.fK), (vI x.fE)]
theorem KE.p : PortF KE.c := fun _ => rfl
def KE.eqB (a b : KE) : Bool := (a.fK == b.fK) && ((a.fE == b.fE) && (true))
structure NE where
  fN : Int
  fE : Int
def NE.c (x : NE) : List AV := [(vI x.fN), (vI x.fE)]
theorem NE.p : PortF NE.c := fun _ => rfl
def NE.eqB (a b : NE) : Bool := (a.fN == b.fN) && ((a.fE == b.fE) && (true))

def refsOf (l : List Val) : List Int := (l.filter fun v => v.fKind == 4).map (·.fN)
end Go.Proofs
end
section
namespace Go.Proofs
open Go.RowKit Go.Shelf
attribute [local go_sem] Oper.semAt_some
set_option maxRecDepth 100000 in
set_option maxHeartbeats 1000000 in
theorem Try.refs1_in (F : Fence) (n : Nat) (h7 : F.fn 136) (hro : F.round = none) (hn : 1 ≤ n) (l Bs bo n₀ b off len cap : Nat) (ks ns : Nat → Int) (I : Nat → Prop) (hIb : I b) (J Jx : List Int → World → Prop) (V : Int → Prop) (hmax : (len : Int) ≤ 9223372036854775807) (hV : ∀ j, j < len → (ks j == 4) = true → V (ns j))
    (f : Nat → List Int) (hf0 : f 0 = []) (hf1 : ∀ k, k < len → f (k + 1) = if (ks k == 4) = true then f k ++ [ns k] else f k) (hfl : ∀ k, k < len → (ks k == 4) = true → (f k).length < (f len).length)
    (hY : ∀ pre x W, J pre W → pre.length < (f len).length → V x → YieldAt F (n - 1) Try.prog l #[.int .i64 x] W fun e W' =>
      (e = .returned (.bool true) ∧ J (pre ++ [x]) W' ∧ (∀ b, I b → b < n₀ → W'.heap[b]? = W.heap[b]?)) ∨ (e = .returned (.bool false) ∧ Jx (pre ++ [x]) W'))
    (hA : ∀ s (W : World) (o : Obj), J s W → J s (W.alloc o))
    (W : World) (hn₀ : n₀ ≤ W.heap.size) (hb : b < n₀) (hBs : W.cell? ⟨Bs, bo, none⟩ = some (.slice (some ⟨b, off, none⟩) len cap)) (hc : ∀ j, j < len → W.cell? ⟨b, off + j * 2, none⟩ = some (.int .i64 (ks j)) ∧ W.cell? ⟨b, off + j * 2 + 1, none⟩ = some (.int .i64 (ns j))) (h0 : J [] W) :
    CallsIn F n Try.prog 136 #[.func (.yield l) #[] #[], .pointer (some ⟨Bs, bo, none⟩)] W fun e W' => (∃ v, e = .returned v) ∧ (J (f len) W' ∨ ∃ pre, Jx pre W') := by
  refine callsIn_of_wp Try.func136 rfl h7 ?_ hro
  simp only [Try.ntmps136, List.size_toArray, List.length_cons, List.length_nil, Nat.reduceAdd, Nat.reduceSub, Array.replicate_succ, Array.replicate_zero, List.push_toArray, List.append_toArray, List.nil_append, List.cons_append]
  gi_wp2
  gi_loopw [7] (fun i wr => ∃ k : Nat, k ≤ len ∧ i = .int .i64 k ∧ J (f k) wr ∧ ∀ b, I b → b < n₀ → wr.heap[b]? = W.heap[b]?)
    (fun i _ => len - (intOf i).toNat)
  case atStart => exact ⟨0, Nat.zero_le _, rfl, by rw [hf0]; exact h0, fun _ _ _ => rfl⟩
  case round =>
    obtain ⟨k, hk, rfl, hJs, hnx⟩ := hrel
    have hcell : ∀ o, wr.cell? ⟨b, o, none⟩ = W.cell? ⟨b, o, none⟩ := fun o => World.cell?_of_block (w := W) (hnx b hIb hb)
    have hlive : ∀ b, I b → b < n₀ → b < wr.heap.size := fun b hi hb => by
      have h1 := hnx b hi hb
      rw [Array.getElem?_eq_getElem (by omega : b < W.heap.size)] at h1
      exact (Array.getElem?_eq_some_iff.1 h1).1
    by_cases hlt : k < len
    · have hc1 := (hcell _).trans (hc k hlt).1
      have hc2 := (hcell _).trans (hc k hlt).2
      clear hcell
      by_cases hkind : ks k = 4
      · have hk4 : (ks k == 4) = true := by simp [hkind]
        obtain ⟨fn, tmps, assign, body, hy, hR⟩ := hY _ (ns k) (wr.alloc (.cells #[.int .i64 (ks k), .int .i64 (ns k)] 59)) (hA _ _ _ hJs) (hfl k hlt hk4) (hV k hlt hk4)
        have hkk := hkind
        rw [hkind] at hy hR
        gi_wp2
        refine hR.mono ?_
        rintro e W3 (⟨rfl, hJ3, hk3⟩ | ⟨rfl, hJx3⟩)
        · gi_wp2
          go_roundw
          case rel => exact ⟨k + 1, by omega, by simp, by rw [hf1 k hlt, if_pos hk4]; exact hJ3, fun b' hi hb' => by
            rw [hk3 b' hi hb', ← hnx b' hi hb']
            exact Below.heap_alloc _ _ _ (hlive b' hi hb')⟩
          case measure => simp [intOf]; omega
        · gi_wp2
          refine bodyPost_ret (results_none rfl _ _ _) rfl ?_
          exact ⟨⟨_, rfl⟩, .inr ⟨_, hJx3⟩⟩
      · have hk4 : ¬ (ks k == 4) = true := by simp [hkind]
        gi_wp2
        refine ⟨fun _ h => (by cases h), ?_⟩
        gi_wp2
        go_roundw
        case rel => exact ⟨k + 1, by omega, by simp, by rw [hf1 k hlt, if_neg hk4]; exact hA _ _ _ hJs, fun b' hi hb' => by
            rw [← hnx b' hi hb']
            exact Below.heap_alloc _ _ _ (hlive b' hi hb')⟩
        case measure => simp [intOf]; omega
    · obtain rfl : k = len := by omega
      gi_wp2
      go_end0
      exact ⟨⟨_, rfl⟩, .inl hJs⟩
set_option maxRecDepth 100000 in
set_option maxHeartbeats 1000000 in
theorem Try.refs1_nil (F : Fence) (n : Nat) (h7 : F.fn 136) (hro : F.round = none) (l Bs bo c : Nat) (A : Option Addr) (J : List Int → World → Prop) (W : World) (hBs : W.cell? ⟨Bs, bo, none⟩ = some (.slice A 0 c)) (h0 : J [] W) :
    CallsIn F n Try.prog 136 #[.func (.yield l) #[] #[], .pointer (some ⟨Bs, bo, none⟩)] W fun e W' => (∃ v, e = .returned v) ∧ J [] W' := by
  refine callsIn_of_wp Try.func136 rfl h7 ?_ hro
  simp only [Try.ntmps136, List.size_toArray, List.length_cons, List.length_nil, Nat.reduceAdd, Nat.reduceSub, Array.replicate_succ, Array.replicate_zero, List.push_toArray, List.append_toArray, List.nil_append, List.cons_append]
  gi_wp2
  gi_loopw [7] (fun i wr => i = .int .i64 0 ∧ J [] wr) (fun _ _ => 0)
  case atStart => exact ⟨rfl, h0⟩
  case round =>
    obtain ⟨rfl, hJs⟩ := hrel
    gi_wp2
    go_end0
    exact ⟨⟨_, rfl⟩, hJs⟩
section
open Go.Vm
theorem refsOf_append (a b : List Val) : refsOf (a ++ b) = refsOf a ++ refsOf b := by simp [refsOf]
theorem refsOf_take (l : List Val) (k : Nat) (h : k < l.length) : refsOf (l.take (k + 1)) = if (l[k].fKind == 4) = true then refsOf (l.take k) ++ [l[k].fN] else refsOf (l.take k) := by
  rw [List.take_add_one, List.getElem?_eq_getElem h, refsOf_append]
  cases hc : l[k].fKind == 4 <;> simp [refsOf, hc]
theorem iter136 (l : List Val) : IterSpec Try.prog 136 [.iptr [vL Val.c l]] ((refsOf l).map cI) := by
  refine ⟨fun args w => ?_, fun n w I vs hl hr => ?_⟩
  · simp [callFunc, Try.func136, Try.f136]
  · obtain ⟨v, rfl⟩ : ∃ v, vs = [v] := by
      match vs, hl with
      | [v], _ => exact ⟨v, rfl⟩
    have h1 := hr 0 _ v rfl rfl
    cases h1 with
    | iptr cs sz ad u g1 g2 =>
      obtain ⟨⟨_, had⟩, hc0⟩ := g1 0 _ rfl
      have h2 := g2 0 _ rfl
      have hsp : ∃ Bs bo, ad = ⟨Bs, bo, none⟩ := by
        obtain ⟨Bs, bo, sp⟩ := ad
        refine ⟨Bs, bo, ?_⟩
        unfold World.cell? at hc0
        cases sp with
        | none => rfl
        | some q =>
          exfalso
          simp [Addr.add] at hc0
          split at hc0 <;> simp at hc0
      obtain ⟨Bs, bo, rfl⟩ := hsp
      intro lb J Jx W hW hJ hJx hY h0
      have hc' : W.cell? ⟨Bs, bo, none⟩ = some (u 0) := by
        have : (⟨Bs, bo, none⟩ : Addr).add 0 = ⟨Bs, bo, none⟩ := by simp [Addr.add]
        rw [this] at hc0
        exact (hW.cell (p := ⟨Bs, bo, none⟩) had).trans hc0
      generalize hu : u 0 = u0 at h2 hc'
      have wide : ∀ {n g xs W R}, CallsIn (FR none) n Try.prog g xs W R ↔ CallsIn (FR none) (n + 1) Try.prog g xs W R := fun {n g xs W R} => (fr_calls (r := none) (n := n)).trans (fr_calls (r := none) (n := n + 1)).symm
      let J2 : List Int → World → Prop := fun pre W => ∃ zs : List { y : List AV // y ∈ (refsOf l).map cI }, zs.map (·.1) = pre.map cI ∧ J zs W
      let Jx2 : List Int → World → Prop := fun pre W => ∃ zs : List { y : List AV // y ∈ (refsOf l).map cI }, Jx zs W
      have fin : ∀ e W', (∃ v, e = Ending.returned v) ∧ (J2 (refsOf l) W' ∨ ∃ pre, Jx2 pre W') → (∃ v, e = Ending.returned v) ∧ ((∃ xs, xs.map (·.1) = (refsOf l).map cI ∧ J xs W') ∨ (∃ pre, True ∧ Jx pre W')) := fun e W' h => by
        obtain ⟨he, ⟨zs, h1, h2⟩ | ⟨pre, zs, h2⟩⟩ := h
        · exact ⟨he, .inl ⟨zs, h1, h2⟩⟩
        · exact ⟨he, .inr ⟨zs, trivial, h2⟩⟩
      cases h2 with
      | sl xs A c sz2 u2 q1 q2 q3 q4 q5 q6 =>
        simp only [List.length_map] at q1 hc'
        cases A with
        | none =>
          have hz : c = 0 := q3 rfl
          have hl0 : l = [] := List.length_eq_zero_iff.1 (by omega)
          subst hl0
          refine wide.2 ((Try.refs1_nil (FR none) (n + 1) trivial rfl lb Bs bo c none J2 W hc' ⟨[], rfl, h0⟩).mono fun e W' h => fin e W' ⟨h.1, .inl h.2⟩)
        | some a2 =>
          by_cases hl0 : l = []
          · subst hl0
            refine wide.2 ((Try.refs1_nil (FR none) (n + 1) trivial rfl lb Bs bo c (some a2) J2 W hc' ⟨[], rfl, h0⟩).mono fun e W' h => fin e W' ⟨h.1, .inl h.2⟩)
          · have hpos : 0 < l.length := List.length_pos_iff.2 hl0
            have hz2 : sz2 = 2 := by
              have := q4 0 (Val.c l[0]) (by simp [List.getElem?_map, List.getElem?_eq_getElem hpos])
              simpa [Val.c] using this.symm
            subst hz2
            have cell : ∀ (j : Nat) (hj : j < l.length) (i : Nat) (m : Int), (Val.c l[j])[i]? = some (vI m) → (I 2 a2.block ∧ a2.block < w.heap.size) ∧ w.cell? (a2.add (j * 2 + i)) = some (.int .i64 m) := fun j hj i m hi => by
              have hx : (l.map Val.c)[j]? = some (Val.c l[j]) := by simp [List.getElem?_map, List.getElem?_eq_getElem hj]
              obtain ⟨ad, e1, e2, e3⟩ := q5 j _ i _ hx hi
              simp only [Option.some.injEq] at e1
              subst e1
              have e4 := q6 j _ i _ hx hi
              have e5 : u2 j i = .int .i64 m := by
                generalize u2 j i = q at e4 ⊢
                cases e4; rfl
              rw [e5] at e3
              exact ⟨e2, e3⟩
            obtain ⟨⟨hI2, hb2⟩, hc20⟩ := cell 0 hpos 0 _ rfl
            have hsp : ∃ b off, a2 = ⟨b, off, none⟩ := by
              obtain ⟨Bs, bo, sp⟩ := a2
              refine ⟨Bs, bo, ?_⟩
              unfold World.cell? at hc20
              cases sp with
              | none => rfl
              | some q =>
                exfalso
                simp [Addr.add] at hc20
                split at hc20 <;> simp at hc20
            obtain ⟨b, off, rfl⟩ := hsp
            have key := Try.refs1_in (FR none) (n + 1) trivial rfl (by omega) lb Bs bo w.heap.size b off l.length c (fun k => ((l[k]?).map Val.fKind).getD 0) (fun k => ((l[k]?).map Val.fN).getD 0) (fun b => ∃ sz, I sz b) ⟨2, hI2⟩ J2 Jx2 (fun x => x ∈ refsOf l)
              (by have := Nat.le_trans q1 q2; unfold maxLen at this; omega) (fun j hj hk => ?_) (fun k => refsOf (l.take k)) rfl (fun k hk => ?_) (fun k hk h4 => ?_) (fun pre x W2 hJ2 hlen hx => ?_) (fun s W2 o ⟨zs, z1, z2⟩ => ⟨zs, z1, ?_⟩) W hW.size hb2 hc' (fun j hj => ?_) ⟨[], rfl, h0⟩
            · refine wide.2 (key.mono fun e W' h => fin e W' ⟨h.1, ?_⟩)
              simpa using h.2
            · simp only [List.getElem?_eq_getElem hj, Option.map_some, Option.getD_some] at hk ⊢
              exact List.mem_map.2 ⟨l[j], List.mem_filter.2 ⟨List.getElem_mem hj, hk⟩, rfl⟩
            · simp only [List.getElem?_eq_getElem hk, Option.map_some, Option.getD_some]
              exact refsOf_take l k hk
            · simp only [List.getElem?_eq_getElem hk, Option.map_some, Option.getD_some] at h4
              have e1 := refsOf_take l k hk
              rw [if_pos h4] at e1
              have e2 : refsOf (l.take l.length) = refsOf (l.take (k + 1)) ++ refsOf (l.drop (k + 1)) := by rw [← refsOf_append, List.take_append_drop, List.take_length]
              rw [e2, e1]
              simp
            · obtain ⟨zs, z1, z2⟩ := hJ2
              have hlen2 : zs.length < ((refsOf l).map cI).length := by
                have := congrArg List.length z1
                simp at this hlen ⊢
                omega
              have hx2 : cI x ∈ (refsOf l).map cI := List.mem_map.2 ⟨x, hx, rfl⟩
              have hy := hY zs ⟨cI x, hx2⟩ W2 z2 hlen2
              obtain ⟨fn, tmps, assign, body, hy1, hR⟩ := hy
              refine ⟨fn, tmps, assign, body, hy1, RoundIn.mono ⟨hR.1, fun c cs _ => hR.2 c cs (fr_room none _)⟩ (fun e W' h => ?_)⟩
              rcases h with ⟨h1, h2, h3⟩ | ⟨h1, h2⟩
              · exact .inl ⟨h1, ⟨zs ++ [⟨cI x, hx2⟩], by simp [z1], h2⟩, fun b ⟨sz, hb⟩ hlt => h3 sz b hb hlt⟩
              · exact .inr ⟨h1, ⟨_, h2⟩⟩
            · exact hJ zs W2 _ none z2 (World.grownBy_alloc W2 o none) (fun r e => by cases e)
            · obtain ⟨_, k1⟩ := cell j hj 0 _ rfl
              obtain ⟨_, k2⟩ := cell j hj 1 _ rfl
              simp only [List.getElem?_eq_getElem hj, Option.map_some, Option.getD_some]
              rw [add_mk] at k1 k2
              exact ⟨(hW.cell (p := ⟨b, off + j * 2, none⟩) hb2).trans k1, (hW.cell (p := ⟨b, off + j * 2 + 1, none⟩) hb2).trans k2⟩
end
end Go.Proofs
end
section
-- the Vm layer, 38: code that is run outright
set_option linter.unusedVariables false
set_option linter.unusedSimpArgs false
namespace Go.Vm
open Go.RowKit

/-! ### equal, as far as it is told -/
theorem nbq {a b : Nat} : (Nat.beq a b = true) = (a = b) := propext ⟨Nat.eq_of_beq_eq_true, fun h => by subst h; exact Nat.beq_refl a⟩
def veq : Value → Value → Bool
  | .int k a, .int k' b => (if k = k' then true else false) && a == b
  | .bool a, .bool b => a == b
  | .string a, .string b => sEqF a b
  | .tuple ⟨[]⟩, .tuple ⟨[]⟩ => true
  | .slice none 0 0, .slice none 0 0 => true
  | _, _ => false
theorem veq_ok {a b : Value} (h : veq a b = true) : a = b := by
  unfold veq at h
  split at h
  · simp only [Bool.and_eq_true, beq_iff_eq] at h
    obtain ⟨h1, rfl⟩ := h
    split at h1
    · rename_i e; rw [e]
    · cases h1
  · simp only [beq_iff_eq] at h; rw [h]
  · unfold sEqF at h
    rename_i a b
    simp only [beq_iff_eq] at h
    congr 1
    cases a; cases b
    congr 1
    exact Array.toList_inj.1 h
  · rfl
  · rfl
  · cases h
def leq {α : Type} (f : α → α → Bool) : List α → List α → Bool
  | [], [] => true
  | a :: l, b :: l' => f a b && leq f l l'
  | _, _ => false
theorem leq_ok {α : Type} {f : α → α → Bool} (hf : ∀ a b, f a b = true → a = b) : ∀ {l l' : List α}, leq f l l' = true → l = l'
  | [], [], _ => rfl
  | a :: l, b :: l', h => by
    simp only [leq, Bool.and_eq_true] at h
    rw [hf a b h.1, leq_ok hf h.2]
  | [], _ :: _, h => by cases h
  | _ :: _, [], h => by cases h
def aeq : Nat → AV → AV → Bool
  | 0, _, _ => false
  | n + 1, a, b => match a, b with
    | .any, .any => true
    | .bl, .bl => true
    | .val u, .val v => veq u v
    | .agg l, .agg l' => leq (aeq n) l l'
    | .tup l, .tup l' => leq (aeq n) l l'
    | .sl l, .sl l' => leq (leq (aeq n)) l l'
    | .iptr l, .iptr l' => leq (aeq n) l l'
    | .fn f l, .fn f' l' => Nat.beq f f' && leq (aeq n) l l'
    | .own o m, .own o' m' => Nat.beq o o' && Nat.beq m m'
    | .ptr o m, .ptr o' m' => Nat.beq o o' && Nat.beq m m'
    | .eptr o m j k, .eptr o' m' j' k' => Nat.beq o o' && Nat.beq m m' && Nat.beq j j' && Nat.beq k k'
    | .mp o, .mp o' => Nat.beq o o'
    | _, _ => false
theorem aeq_ok : ∀ (n : Nat) (a b : AV), aeq n a b = true → a = b
  | 0, a, b, h => by simp [aeq] at h
  | n + 1, a, b, h => by
    have ih := aeq_ok n
    have ih2 : ∀ l l' : List AV, leq (aeq n) l l' = true → l = l' := fun l l' => leq_ok ih
    unfold aeq at h
    split at h
    · rfl
    · rfl
    · rw [veq_ok h]
    · rw [ih2 _ _ h]
    · rw [ih2 _ _ h]
    · rw [leq_ok (fun a b => ih2 a b) h]
    · rw [ih2 _ _ h]
    · simp only [Bool.and_eq_true, nbq] at h; rw [h.1, ih2 _ _ h.2]
    · simp only [Bool.and_eq_true, nbq] at h; rw [h.1, h.2]
    · simp only [Bool.and_eq_true, nbq] at h; rw [h.1, h.2]
    · simp only [Bool.and_eq_true, nbq] at h; rw [h.1.1.1, h.1.1.2, h.1.2, h.2]
    · simp only [nbq] at h; rw [h]
    · cases h
def peq (a b : Value × Value) : Bool := veq a.1 b.1 && veq a.2 b.2
theorem peq_ok (a b : Value × Value) (h : peq a b = true) : a = b := by
  simp only [peq, Bool.and_eq_true] at h
  exact Prod.ext (veq_ok h.1) (veq_ok h.2)
def oeq : Option AObj → Option AObj → Bool
  | none, none => true
  | some a, some b => (match a, b with
    | .box t l, .box t' l' => Nat.beq t t' && leq (aeq 9) l l'
    | .row t z l, .row t' z' l' => Nat.beq t t' && Nat.beq z z' && leq (leq (aeq 9)) l l'
    | .hole q, .hole q' => Nat.beq q q'
    | .iter b p, .iter b' p' => sEqF b b' && Nat.beq p p'
    | .map l, .map l' => leq peq l l'
    | _, _ => false)
  | _, _ => false
theorem oeq_ok (a b : Option AObj) (h : oeq a b = true) : a = b := by
  have ih2 : ∀ l l' : List AV, leq (aeq 9) l l' = true → l = l' := fun l l' => leq_ok (aeq_ok 9)
  unfold oeq at h
  split at h
  · rfl
  · split at h
    · simp only [Bool.and_eq_true, nbq] at h; rw [h.1, ih2 _ _ h.2]
    · simp only [Bool.and_eq_true, nbq] at h; rw [h.1.1, h.1.2, leq_ok (fun a b => ih2 a b) h.2]
    · simp only [nbq] at h; rw [h]
    · simp only [Bool.and_eq_true, nbq] at h
      have := veq_ok (a := .string _) (b := .string _) h.1
      simp only [Value.string.injEq] at this
      rw [this, h.2]
    · rw [leq_ok peq_ok h]
    · cases h
  · cases h

/-! ### lists -/
def omap {α β : Type} (f : α → Option β) : List α → Option (List β)
  | [] => some []
  | a :: l => match f a with | some b => (match omap f l with | some bs => some (b :: bs) | none => none) | none => none
theorem omap_eq {α β : Type} {f : α → Option β} : ∀ {l : List α}, omap f l = l.mapM f
  | [] => rfl
  | a :: l => by
    rw [List.mapM_cons]
    unfold omap
    rw [omap_eq]
    cases f a with
    | none => rfl
    | some b => cases l.mapM f <;> rfl
noncomputable def nthD {α : Type} (d : α) (l : List α) : Nat → α := List.rec (motive := fun _ => Nat → α) (fun _ => d) (fun a _ ih n => Nat.rec (motive := fun _ => α) a (fun m _ => ih m) n) l
theorem nthD_eq {α : Type} {d : α} : ∀ {l : List α} {n : Nat}, nthD d l n = l.getD n d
  | [], n => by simp [nthD]
  | a :: l, 0 => rfl
  | a :: l, n + 1 => by
    show nthD d l n = _
    rw [nthD_eq (l := l)]; simp
noncomputable def nthO {α : Type} (l : List α) : Nat → Option α := List.rec (motive := fun _ => Nat → Option α) (fun _ => none) (fun a _ ih n => Nat.rec (motive := fun _ => Option α) (some a) (fun m _ => ih m) n) l
theorem nthO_eq {α : Type} : ∀ {l : List α} {n : Nat}, nthO l n = l[n]?
  | [], n => by simp [nthO]
  | a :: l, 0 => rfl
  | a :: l, n + 1 => by
    show nthO l n = _
    rw [nthO_eq (l := l)]; simp
noncomputable def setN {α : Type} (v : α) (l : List α) : Nat → List α := List.rec (motive := fun _ => Nat → List α) (fun _ => []) (fun a l ih n => Nat.rec (motive := fun _ => List α) (v :: l) (fun m _ => a :: ih m) n) l
theorem setN_eq {α : Type} {v : α} : ∀ {l : List α} {n : Nat}, setN v l n = l.set n v
  | [], n => by simp [setN]
  | a :: l, 0 => rfl
  | a :: l, n + 1 => by
    show a :: setN v l n = _
    rw [setN_eq (l := l)]; simp
noncomputable def setT (tm : List AV) (d : Option Nat) (v : AV) : List AV := Option.rec (motive := fun _ => List AV) tm (fun d => setN v tm d) d
theorem setT_eq : @setT = @setO := by
  funext tm d v
  cases d with
  | none => rfl
  | some d => exact setN_eq
noncomputable def evq (s : St) : Arg → AV
  | .t n => nthD .any s.tm n
  | .c v => .val v
  | .f n => .fn n []
theorem evq_eq {s : St} : evq s = s.ev := by
  funext x
  cases x with
  | t n => exact nthD_eq
  | c v => rfl
  | f n => rfl

/-! ### values told as ones without references -/
noncomputable def frzE (hp : Heap) (T : List Nat) : Nat → AV → Option AV
  | 0, _ => none
  | n + 1, a => match a with
    | .val v => some (nrm v)
    | .any => some .any
    | .sl xs => some (.sl xs)
    | .iptr cs => some (.iptr cs)
    | .fn f cs => (match omap (frzE hp T n) cs with | some ds => some (.fn f ds) | none => none)
    | .agg cs => (match omap (frzE hp T n) cs with | some ds => some (.agg ds) | none => none)
    | .tup cs => (match omap (frzE hp T n) cs with | some ds => some (.tup ds) | none => none)
    | .ptr o off => ifB (T.contains o) (match nthO hp o with
      | some (some (.box _ cs)) => (match omap (frzE hp T n) cs with | some ds => some (.iptr (ds.drop off)) | none => none)
      | _ => none)
    | .own o m => ifB (T.contains o) (match nthO hp o with
      | some (some (.row _ _ xs)) => ifB (Nat.beq xs.length m) (match omap (fun (cs : List AV) => omap (frzE hp T n) cs) xs with | some ys => some (.sl ys) | none => none)
      | _ => none)
    | _ => none
theorem frzE_ok {hp : Heap} {T : List Nat} : ∀ (n : Nat) {a b : AV}, frzE hp T n a = some b → Fz hp T a b
  | 0, a, b, h => by simp [frzE] at h
  | n + 1, a, b, h => by
    have all : ∀ {cs ds : List AV}, omap (frzE hp T n) cs = some ds → cs.length = ds.length ∧ ∀ (i : Nat) a b, cs[i]? = some a → ds[i]? = some b → Fz hp T a b := fun {cs ds} hm => by
      obtain ⟨m1, m2⟩ := mapM_some (omap_eq ▸ hm)
      refine ⟨m1.symm, fun i a b ha hb => ?_⟩
      obtain ⟨c, hc, he⟩ := m2 i a ha
      rw [hb] at hc
      simp only [Option.some.injEq] at hc
      subst hc
      exact frzE_ok n he
    unfold frzE at h
    split at h
    · simp only [Option.some.injEq] at h; subst h; exact .val _
    · simp only [Option.some.injEq] at h; subst h; exact .raw _ rfl
    · simp only [Option.some.injEq] at h; subst h; exact .raw _ rfl
    · simp only [Option.some.injEq] at h; subst h; exact .iptr _
    · split at h
      · rename_i ds hd; simp only [Option.some.injEq] at h; subst h; exact .fn _ _ _ (all hd).1 (all hd).2
      · cases h
    · split at h
      · rename_i ds hd; simp only [Option.some.injEq] at h; subst h; exact .agg _ _ (all hd).1 (all hd).2
      · cases h
    · split at h
      · rename_i ds hd; simp only [Option.some.injEq] at h; subst h; exact .tup _ _ (all hd).1 (all hd).2
      · cases h
    · obtain ⟨ho, h⟩ := ifB_some h
      split at h
      · rename_i t cs hb
        rw [nthO_eq] at hb
        split at h
        · rename_i ds hd
          simp only [Option.some.injEq] at h; subst h
          exact .ptr _ _ t cs ds (by simpa using ho) hb (all hd).1 (all hd).2
        · cases h
      · cases h
    · obtain ⟨ho, h⟩ := ifB_some h
      split at h
      · rename_i t sz xs hb
        obtain ⟨hl, h⟩ := ifB_some h
        rw [nthO_eq] at hb
        split at h
        case h_2 => cases h
        rename_i ys hd
        simp only [Option.some.injEq] at h; subst h
        obtain ⟨m1, m2⟩ := mapM_some (omap_eq ▸ hd)
        refine .own _ _ t sz xs ys (by simpa using ho) hb (Nat.eq_of_beq_eq_true hl) m1.symm (fun j cs ds h1 h2 => ?_) (fun j cs ds i a b h1 h2 h3 h4 => ?_)
        · obtain ⟨c, hc, he⟩ := m2 j cs h1
          rw [h2] at hc; simp only [Option.some.injEq] at hc; subst hc
          exact (all he).1
        · obtain ⟨c, hc, he⟩ := m2 j cs h1
          rw [h2] at hc; simp only [Option.some.injEq] at hc; subst hc
          exact (all he).2 i a b h3 h4
      · cases h
    · cases h
theorem frzEL_go {hp : Heap} {T : List Nat} {n : Nat} : ∀ {az bs : List AV}, az.mapM (frzE hp T n) = some bs → FzL hp T az bs
  | [], bs, h => by simp at h; subst h; trivial
  | a :: az, bs, h => by
    simp only [List.mapM_cons, Option.bind_eq_bind, Option.bind_eq_some_iff, Option.pure_def, Option.some.injEq] at h
    obtain ⟨b, hb, cs, hc, rfl⟩ := h
    exact ⟨frzE_ok n hb, frzEL_go hc⟩
theorem frzEL_ok {hp : Heap} {T : List Nat} {n : Nat} {az bs : List AV} (h : omap (frzE hp T n) az = some bs) : FzL hp T az bs := frzEL_go (omap_eq ▸ h)
/-- The rows and boxes that a value reaches. -/
noncomputable def tE (hp : Heap) : Nat → AV → List Nat
  | 0, _ => []
  | n + 1, a => match a with
    | .fn _ cs | .agg cs | .tup cs => cs.flatMap (tE hp n)
    | .ptr o _ => (match nthO hp o with
      | some (some (.box _ cs)) => o :: cs.flatMap (tE hp n)
      | _ => [])
    | .own o _ => (match nthO hp o with
      | some (some (.row _ _ xs)) => o :: xs.flatMap fun cs => cs.flatMap (tE hp n)
      | _ => [])
    | _ => []
def noSz (S : List Nat) : Nat → AV → Bool
  | 0, _ => false
  | n + 1, a => match a with
    | .any | .val _ | .fn _ [] => true
    | .agg cs | .tup cs => cs.all (noSz S n)
    | .sl xs => xs.all fun cs => !S.contains cs.length && cs.all (noSz S n)
    | _ => false
theorem noSz_ok {S : List Nat} : ∀ (n : Nat) {a : AV}, noSz S n a = true → NoSz S a
  | 0, a, h => by simp [noSz] at h
  | n + 1, a, h => by
    unfold noSz at h
    split at h
    · exact .any
    · exact .val _
    · exact .fn _
    · exact .agg _ fun i a hi => noSz_ok n (List.all_eq_true.1 h a (List.mem_of_getElem? hi))
    · exact .tup _ fun i a hi => noSz_ok n (List.all_eq_true.1 h a (List.mem_of_getElem? hi))
    · refine .sl _ (fun j cs hj => ?_) (fun j cs i a hj hi => ?_)
      · have := List.all_eq_true.1 h cs (List.mem_of_getElem? hj)
        simp only [Bool.and_eq_true, Bool.not_eq_true'] at this
        intro hm
        have h2 : S.contains cs.length = true := by simpa using hm
        rw [h2] at this
        cases this.1
      · have := List.all_eq_true.1 h cs (List.mem_of_getElem? hj)
        simp only [Bool.and_eq_true] at this
        exact noSz_ok n (List.all_eq_true.1 this.2 a (List.mem_of_getElem? hi))
    · cases h

/-! ### operations -/
structure Env where
  P : Program
  hs : Nat → Bool
  pf : Nat → List AV → Option AV
  hf : Nat → List AV → Heap → Option (AV × Heap)
  it : Nat → List AV → Option (List (List AV))
structure EnvOk (e : Env) : Prop where
  pf : ∀ f az r, e.pf f az = some r → PureSpec e.P f az r
  hf : ∀ f az hp r hp', e.hf f az hp = some (r, hp') → HSpec e.P f az hp r hp'
  it : ∀ g caps xs, e.it g caps = some xs → IterSpec e.P g caps xs

noncomputable def callE (e : Env) (hp : Heap) (f : Nat) (us : List AV) : Option (AV × Bool × List Nat) :=
  match us.flatMap (tE hp 9) with
  | T => ifB (T.all (liveB hp)) (match omap (frzE hp T 9) us with
    | some az => (match e.pf f az with
      | some r => some (r, T.isEmpty || noSz (T.map (rowSz hp)) 9 r, T)
      | none => none)
    | none => none)
theorem callE_ok {e : Env} (he : EnvOk e) {hp : Heap} {f : Nat} {us : List AV} {r : AV} {b : Bool} {T : List Nat} (h : callE e hp f us = some (r, b, T)) :
    T.all (liveB hp) = true ∧ ∃ az, FzL hp T us az ∧ PureSpec e.P f az r ∧ (b = true → NoSz (T.map (rowSz hp)) r ∨ T = []) := by
  unfold callE at h
  simp only at h
  obtain ⟨h1, h⟩ := ifB_some h
  split at h
  · rename_i az ha
    split at h
    · rename_i r' hr
      simp only [Option.some.injEq, Prod.mk.injEq] at h
      obtain ⟨rfl, rfl, rfl⟩ := h
      refine ⟨h1, az, frzEL_ok ha, he.pf _ _ _ hr, fun hb => ?_⟩
      simp only [Bool.or_eq_true] at hb
      rcases hb with hb | hb
      · exact .inr (by simpa using hb)
      · exact .inl (noSz_ok _ hb)
    · cases h
  · cases h

def ilt : Int → Int → Bool
  | .ofNat m, .ofNat n => Nat.blt m n
  | .negSucc _, .ofNat _ => true
  | .ofNat _, .negSucc _ => false
  | .negSucc m, .negSucc n => Nat.blt n m
theorem ilt_eq {a b : Int} : ilt a b = decide (a < b) := by
  rw [Bool.eq_iff_iff, decide_eq_true_eq]
  match a, b with
  | .ofNat m, .ofNat n => simp only [ilt, Nat.blt_eq, Int.ofNat_eq_natCast]; omega
  | .negSucc m, .ofNat n => exact ⟨fun _ => by rw [Int.negSucc_eq, Int.ofNat_eq_natCast]; omega, fun _ => rfl⟩
  | .ofNat m, .negSucc n => exact ⟨fun h => (by cases h), fun h => by rw [Int.negSucc_eq, Int.ofNat_eq_natCast] at h; omega⟩
  | .negSucc m, .negSucc n => simp only [ilt, Nat.blt_eq, Int.negSucc_eq]; omega
def ieq : Int → Int → Bool
  | .ofNat m, .ofNat n => Nat.beq m n
  | .negSucc m, .negSucc n => Nat.beq m n
  | _, _ => false
theorem ieq_eq {a b : Int} : ieq a b = (a == b) := by
  rw [Bool.eq_iff_iff, beq_iff_eq]
  match a, b with
  | .ofNat m, .ofNat n => simp only [ieq, nbq, Int.ofNat_eq_natCast]; omega
  | .negSucc m, .ofNat n => exact ⟨fun h => (by cases h), fun h => by rw [Int.negSucc_eq, Int.ofNat_eq_natCast] at h; omega⟩
  | .ofNat m, .negSucc n => exact ⟨fun h => (by cases h), fun h => by rw [Int.negSucc_eq, Int.ofNat_eq_natCast] at h; omega⟩
  | .negSucc m, .negSucc n => simp only [ieq, nbq, Int.negSucc_eq]; omega
def iadd : Int → Int → Int
  | .ofNat m, .ofNat n => bif Nat.ble (m + n) 4611686018427387904 then .ofNat (m + n) else IntKind.i64.wrap (.ofNat m + .ofNat n)
  | a, b => IntKind.i64.wrap (a + b)
theorem wrap_small {n : Nat} (h : n ≤ 4611686018427387904) : IntKind.i64.wrap (n : Int) = n := by
  have h1 : (n : Int) % (2 ^ 64 : Int) = n := Int.emod_eq_of_lt (by omega) (by omega)
  simp only [IntKind.wrap, IntKind.bits, IntKind.signed, h1]
  rw [if_neg]
  simp
  omega
theorem iadd_eq {a b : Int} : iadd a b = IntKind.i64.wrap (a + b) := by
  unfold iadd
  split
  · rename_i m n
    cases h : Nat.ble (m + n) 4611686018427387904
    · rfl
    · rw [cond_true]
      have := wrap_small (Nat.le_of_ble_eq_true h)
      show ((m + n : Nat) : Int) = IntKind.i64.wrap ((m : Int) + (n : Int))
      rw [← Int.natCast_add, this]
  · rfl
def icmp : BinOp → Int → Int → Option Value
  | .eql, a, b => some (.bool (ieq a b))
  | .neq, a, b => some (.bool (!ieq a b))
  | .lss, a, b => some (.bool (ilt a b))
  | .leq, a, b => some (.bool (!ilt b a))
  | .gtr, a, b => some (.bool (ilt b a))
  | .geq, a, b => some (.bool (!ilt a b))
  | .add, a, b => some (.int .i64 (iadd a b))
  | .sub, a, b => some (.int .i64 (IntKind.i64.wrap (a - b)))
  | _, _, _ => none
theorem icmp_ok {P : Program} {op : BinOp} {t : TypeId} {a b : Int} {v : Value} (h : icmp op a b = some v) : scRun P (.bin op t) [.int .i64 a, .int .i64 b] = some v := by
  have e1 : decide (a ≤ b) = !ilt b a := by rw [ilt_eq]; by_cases h : a ≤ b <;> simp [h, Int.not_lt, Int.not_le.1] <;> omega
  have e2 : decide (b ≤ a) = !ilt a b := by rw [ilt_eq]; by_cases h : b ≤ a <;> simp [h, Int.not_lt, Int.not_le.1] <;> omega
  cases op <;> first
    | (cases h; done)
    | (rw [← h]; simp only [icmp, ieq_eq, ilt_eq, iadd_eq]; rfl)
    | (rw [← h]; simp only [icmp, ← e1, ← e2]; rfl)
def sstr : BinOp → ByteArray → ByteArray → Option Value
  | .eql, a, b => some (.bool (sEqF a b))
  | .neq, a, b => some (.bool (!sEqF a b))
  | _, _, _ => none
def sagg (P : Program) (op : BinOp) (t : TypeId) (xs ys : Array Value) : Option Value := match P.underlying t with
  | some (.struct fs) => ifB (!P.stoodInHeld t && !P.eqGuardType P.depth t) (match eqFs P xs ys fs.toList with
    | some b => (match op with | .eql => some (.bool b) | .neq => some (.bool !b) | _ => none)
    | none => none)
  | _ => none
def sbin (P : Program) (op : BinOp) (t : TypeId) : List Value → Option Value
  | [.int .i64 a, .int .i64 b] => icmp op a b
  | [.string a, .string b] => sstr op a b
  | [.agg xs, .agg ys] => sagg P op t xs ys
  | _ => none
def snot : List Value → Option Value
  | [.bool b] => some (.bool !b)
  | _ => none
def scE (P : Program) (g : Sc) (vs : List Value) : Option Value := match g with
  | .bin op t => (match sbin P op t vs with | some v => some v | none => scRun P g vs)
  | .un .not => (match snot vs with | some v => some v | none => scRun P g vs)
  | _ => scRun P g vs
theorem sagg_ok {P : Program} {op : BinOp} {t : TypeId} {xs ys : Array Value} {v : Value} (h : sagg P op t xs ys = some v) : scRun P (.bin op t) [.agg xs, .agg ys] = some v := by
  have key : ∀ {t : TypeId} {fs : Array Field}, P.underlying t = some (.struct fs) → P.fieldsOf t = fs := fun {t fs} h => by simp [Program.fieldsOf, h]
  unfold sagg at h
  split at h
  · rename_i fs hu
    obtain ⟨h1, h⟩ := ifB_some h
    simp only [Bool.and_eq_true, Bool.not_eq_true'] at h1
    have hk := key hu
    split at h
    · rename_i r hr
      cases op <;> first | (cases h; done) | skip
      · rw [← Option.some.inj h]
        exact sc_eqs (by rw [hk]; exact hr) (by rw [hk]; exact hu) h1.1 h1.2
      · rw [← Option.some.inj h]
        exact sc_nes (by rw [hk]; exact hr) (by rw [hk]; exact hu) h1.1 h1.2
    · cases h
  · cases h
theorem sbin_ok {P : Program} {op : BinOp} {t : TypeId} {vs : List Value} {v : Value} (h : sbin P op t vs = some v) : scRun P (.bin op t) vs = some v := by
  unfold sbin at h
  split at h
  · exact icmp_ok h
  · rename_i a b
    cases op <;> first | (cases h; done) | skip
    · rw [str_eql]; exact h
    · rw [str_neq]; exact h
  · exact sagg_ok h
  · cases h
theorem scE_ok {P : Program} {g : Sc} {vs : List Value} {v : Value} (h : scE P g vs = some v) : scRun P g vs = some v := by
  unfold scE at h
  split at h
  · split at h
    · rename_i hs
      rw [← h]
      exact sbin_ok hs
    · exact h
  · split at h
    · rename_i hs
      rw [← h]
      unfold snot at hs
      split at hs
      · rw [← hs]; rfl
      · cases hs
    · exact h
  · exact h
end Go.Vm
end
section
-- the Vm layer, 39: operations that are run outright
set_option linter.unusedVariables false
set_option linter.unusedSimpArgs false
namespace Go.Vm
open Go.RowKit

theorem omap_map {α β γ : Type} {f : α → β} {g : β → Option γ} : ∀ {l : List α}, omap (fun x => g (f x)) l = omap g (l.map f)
  | [] => rfl
  | a :: l => by simp only [omap, List.map_cons, omap_map (l := l)]
section
variable (e : Env) (s : St)
/-! ### those that leave the heap as it is -/
noncomputable def cPick (c a b : Arg) : Option AV := match evq s c with | .val (.bool t) => (match t with | true => some (evq s a) | false => some (evq s b)) | _ => none
noncomputable def cSc (g : Sc) (xs : List Arg) : Option AV := match omap (fun x => toV (evq s x)) xs with | some vs => (match scE e.P g vs with | some v => some (.val v) | none => none) | none => none
noncomputable def cLen (st : Bool) (x : Arg) : Option AV := match st with
  | true => (match evq s x with | .val (.string b) => some (.val (.int .i64 b.size)) | _ => none)
  | false => (match asL s.hp (evq s x) with | some xs => some (.val (.int .i64 xs.length)) | none => none)
noncomputable def cLsl (sz : Nat) (x : Arg) (lo hi : Option Arg) : Option AV := match evq s x with
  | .sl xs => ifB (xs.all fun cs => Nat.beq cs.length sz) (match intA s (some (xs.length : Int)) hi, intA s (some 0) lo with
    | some h, some l => ifB (decide (0 ≤ l) && decide (l ≤ h) && decide (h ≤ xs.length)) (some (.sl ((xs.take h.toNat).drop l.toNat)))
    | _, _ => none)
  | _ => none
noncomputable def cFld (x : Arg) (off n : Nat) (st : Bool) : Option AV := match evq s x with | .agg cs => ifB (Nat.ble (off + n) cs.length) (some (pk st ((cs.drop off).take n))) | _ => none
noncomputable def cExt (x : Arg) (j : Nat) : Option AV := match evq s x with | .tup vs => nthO vs j | _ => none
noncomputable def cBld (zs : List Value) (ps : List (Nat × Nat × Arg)) : Option AV := match bldA s (zs.map .val) ps with | some cs => some (.agg cs) | none => none
noncomputable def cFa (x : Arg) (off : Nat) : Option AV := match evq s x with
  | .ptr o k => (match nthO s.hp o with | some (some (.box _ _)) => some (.ptr o (k + off)) | _ => none)
  | .eptr o m j k => (match nthO s.hp o with | some (some (.row _ _ xs)) => ifB (Nat.beq xs.length m) (some (.eptr o m j (k + off))) | _ => none)
  | .iptr cs => some (.iptr (cs.drop off))
  | _ => none
noncomputable def cIa (sz : Nat) (x i : Arg) : Option AV := match evq s i with
  | .val (.int _ n) => (match evq s x with
    | .sl xs => ifB (decide (0 ≤ n)) (match nthO xs n.toNat with | some cs => ifB (Nat.beq cs.length sz) (some (.iptr cs)) | none => none)
    | .own o m => ifB (decide (0 ≤ n) && decide (n < m)) (match nthO s.hp o with | some (some (.row _ sz' xs)) => ifB (Nat.beq sz' sz && Nat.beq xs.length m) (some (.eptr o m n.toNat 0)) | _ => none)
    | _ => none)
  | _ => none
noncomputable def cNck (x : Arg) : Option AV := match evq s x with
  | .iptr cs => some (.iptr cs)
  | .ptr o k => (match nthO s.hp o with | some (some (.box _ _)) => some (.ptr o k) | _ => none)
  | .eptr o m j k => (match nthO s.hp o with | some (some (.row _ _ xs)) => ifB (Nat.beq xs.length m) (some (.eptr o m j k)) | _ => none)
  | _ => none
noncomputable def cLd (x : Arg) (n : Nat) (st : Bool) : Option AV := match evq s x with
  | .ptr o k => (match nthO s.hp o with | some (some (.box _ cs)) => ifB (Nat.ble (k + n) cs.length) (some (pk st ((cs.drop k).take n))) | _ => none)
  | .eptr o m j k => (match nthO s.hp o with
    | some (some (.row _ _ xs)) => ifB (Nat.beq xs.length m) (match nthO xs j with | some cs => ifB (Nat.ble (k + n) cs.length) (some (pk st ((cs.drop k).take n))) | none => none)
    | _ => none)
  | .iptr cs => ifB (Nat.ble n cs.length) (some (pk st (cs.take n)))
  | _ => none
noncomputable def cIsl (sz : Nat) (ps : List Arg) : Option AV := match omap (fun x => cellsA (evq s x)) ps with
  | some xs => ifB ((xs.all fun cs => Nat.beq cs.length sz) && xs.flatten.all port) (some (.sl (chunk sz xs.length (xs.flatten.map nrmA))))
  | none => none
def u8A : List AV → Option Int | [.val (.int .u8 n)] => some n | _ => none
noncomputable def cBstr (x : Arg) : Option AV := match asL s.hp (evq s x) with
  | some xs => (match omap u8A xs with | some l => some (.val (.string (bytesOf l))) | none => none)
  | none => none
noncomputable def cLku (kk : Option IntKind) (ok : Bool) (z : Value) (x i : Arg) : Option AV := match evq s x, evq s i with
  | .mp o, .val k => ifB (keyIs kk k) (match nthO s.hp o with
    | some (some (.map es)) => (match mfind k es 0 with
      | some r => some (if ok then .tup [.val ((r.map (·.2)).getD z), .val (.bool r.isSome)] else .val ((r.map (·.2)).getD z))
      | none => none)
    | _ => none)
  | _, _ => none
noncomputable def cIsn (x : Arg) : Option AV := match evq s x with | .sl [] => some .bl | .sl (_ :: _) => some (.val (.bool false)) | _ => none
noncomputable def cCall (f : Nat) (us : List AV) : Option AV := match callE e s.hp f us with | some (r, b, _) => ifB b (some r) | _ => none
noncomputable def cCallv (x : Arg) (xs : List Arg) : Option AV := match evq s x with
  | .fn f caps => (match e.hs f with
    | true => (match e.hf f (xs.map (evq s) ++ caps) s.hp with | some (r, hp') => ifB (leq oeq hp' s.hp) (some r) | none => none)
    | false => cCall e s f (xs.map (evq s) ++ caps))
  | _ => none
noncomputable def evV : K → Option AV
  | .mov x => some (evq s x)
  | .pick c a b => cPick s c a b
  | .sc g xs => cSc e s g xs
  | .len st x => cLen s st x
  | .lsl sz x lo hi => cLsl s sz x lo hi
  | .fld x off n st => cFld s x off n st
  | .ext x j => cExt s x j
  | .bld zs ps => cBld s zs ps
  | .faddr x off => cFa s x off
  | .iaddr sz x i => cIa s sz x i
  | .nck x => cNck s x
  | .ld x n st => cLd s x n st
  | .isl sz ps => cIsl s sz ps
  | .call f xs => cCall e s f (xs.map (evq s))
  | .callv x xs => cCallv e s x xs
  | .mkf f xs => some (.fn f (xs.map (evq s)))
  | .lku kk ok z x i => cLku s kk ok z x i
  | .bstr x => cBstr s x
  | .isn x => cIsn s x
  | _ => none
end

section
variable {e : Env} {s : St} {av : AV}
theorem one_v {k : K} {r : AV} (key : ∀ Q : AV → Heap → Prop, Q r s.hp → vK e.P s Q k) : One e.P s k r s.hp := key _ ⟨rfl, rfl⟩
theorem pure_v (he : EnvOk e) {f : Nat} {us : List AV} {r : AV} (h : cCall e s f us = some r) (Q : AV → Heap → Prop) (hQ : Q r s.hp) :
    ∃ T az, T.all (liveB s.hp) = true ∧ FzL s.hp T us az ∧ ∃ r, PureSpec e.P f az r ∧ (NoSz (T.map (rowSz s.hp)) r ∧ Q r s.hp ∨ Q r (dropAll s.hp T)) := by
  unfold cCall at h
  split at h
  · rename_i hc
    obtain ⟨hb, h⟩ := ifB_some h
    simp only [Option.some.injEq] at h; subst h hb
    obtain ⟨h1, az, h2, h3, h4⟩ := callE_ok he hc
    refine ⟨_, az, h1, h2, _, h3, ?_⟩
    rcases h4 rfl with h4 | rfl
    · exact .inl ⟨h4, hQ⟩
    · exact .inr hQ
  · cases h
theorem evV_ok (he : EnvOk e) {k : K} (h : evV e s k = some av) : One e.P s k av s.hp := by
  refine one_v fun Q hQ => ?_
  cases k <;> simp only [evV] at h <;> first | (cases h; done) | skip
  case mov x => rw [evq_eq] at h; simp only [Option.some.injEq] at h; subst h; exact hQ
  case pick c a b =>
    simp only [cPick, evq_eq] at h
    split at h
    · rename_i t ht
      simp only [vK, ht]
      cases t <;> (simp only [Option.some.injEq] at h; subst h; exact hQ)
    · cases h
  case sc g xs =>
    simp only [cSc, evq_eq] at h
    rw [omap_eq] at h
    split at h
    · rename_i hm
      split at h
      · rename_i hv
        simp only [Option.some.injEq] at h; subst h
        simp only [vK, hm]
        exact ⟨_, scE_ok hv, hQ⟩
      · cases h
    · cases h
  case len st x =>
    simp only [cLen, evq_eq] at h
    cases st
    · simp only at h
      split at h
      · rename_i hx
        simp only [Option.some.injEq] at h; subst h
        simp only [vK, hx]; exact hQ
      · cases h
    · simp only at h
      split at h
      · rename_i hx
        simp only [Option.some.injEq] at h; subst h
        simp only [vK, hx]; exact hQ
      · cases h
  case lsl sz x lo hi =>
    simp only [cLsl, evq_eq] at h
    split at h
    · rename_i xs hx
      obtain ⟨h1, h⟩ := ifB_some h
      split at h
      · rename_i hh ll e1 e2
        obtain ⟨h2, h⟩ := ifB_some h
        simp only [Bool.and_eq_true, decide_eq_true_eq] at h2
        simp only [Option.some.injEq] at h; subst h
        simp only [vK, hx, e1, e2]
        exact ⟨fun cs hcs => Nat.eq_of_beq_eq_true (List.all_eq_true.1 h1 cs hcs), h2.1.1, h2.1.2, h2.2, hQ⟩
      · cases h
    · cases h
  case fld x off n st =>
    simp only [cFld, evq_eq] at h
    split at h
    · rename_i hx
      obtain ⟨h1, h⟩ := ifB_some h
      simp only [Option.some.injEq] at h; subst h
      simp only [vK, hx]
      exact ⟨Nat.le_of_ble_eq_true h1, hQ⟩
    · cases h
  case ext x j =>
    simp only [cExt, evq_eq, nthO_eq] at h
    split at h
    · rename_i hx
      simp only [vK, hx, h]; exact hQ
    · cases h
  case bld zs ps =>
    simp only [cBld] at h
    split at h
    · rename_i hb
      simp only [Option.some.injEq] at h; subst h
      simp only [vK, hb]; exact hQ
    · cases h
  case faddr x off =>
    simp only [cFa, evq_eq, nthO_eq] at h
    split at h
    · rename_i hx
      split at h
      · rename_i hc
        simp only [Option.some.injEq] at h; subst h
        simp only [vK, hx, hc]; exact hQ
      · cases h
    · rename_i hx
      split at h
      · rename_i hc
        obtain ⟨h2, h⟩ := ifB_some h
        simp only [Option.some.injEq] at h; subst h
        simp only [vK, hx, hc]; exact ⟨Nat.eq_of_beq_eq_true h2, hQ⟩
      · cases h
    · rename_i hx
      simp only [Option.some.injEq] at h; subst h
      simp only [vK, hx]; exact hQ
    · cases h
  case iaddr sz x i =>
    simp only [cIa, evq_eq, nthO_eq] at h
    split at h
    · rename_i hi
      split at h
      · rename_i hx
        obtain ⟨h1, h⟩ := ifB_some h
        split at h
        · rename_i hc
          obtain ⟨h2, h⟩ := ifB_some h
          simp only [Option.some.injEq] at h; subst h
          simp only [vK, hx, hi, hc]
          exact ⟨by simpa using h1, Nat.eq_of_beq_eq_true h2, hQ⟩
        · cases h
      · rename_i hx
        obtain ⟨h1, h⟩ := ifB_some h
        simp only [Bool.and_eq_true, decide_eq_true_eq] at h1
        split at h
        · rename_i hc
          obtain ⟨h2, h⟩ := ifB_some h
          simp only [Bool.and_eq_true, nbq] at h2
          simp only [Option.some.injEq] at h; subst h
          simp only [vK, hx, hi, hc]
          exact ⟨h1.1, h1.2, h2.1, h2.2, hQ⟩
        · cases h
      · cases h
    · cases h
  case nck x =>
    simp only [cNck, evq_eq, nthO_eq] at h
    split at h
    · rename_i hx
      simp only [Option.some.injEq] at h; subst h
      simp only [vK, hx]; exact hQ
    · rename_i hx
      split at h
      · rename_i hc
        simp only [Option.some.injEq] at h; subst h
        simp only [vK, hx, hc]; exact hQ
      · cases h
    · rename_i hx
      split at h
      · rename_i hc
        obtain ⟨h2, h⟩ := ifB_some h
        simp only [Option.some.injEq] at h; subst h
        simp only [vK, hx, hc]; exact ⟨Nat.eq_of_beq_eq_true h2, hQ⟩
      · cases h
    · cases h
  case ld x n st =>
    simp only [cLd, evq_eq, nthO_eq] at h
    split at h
    · rename_i hx
      split at h
      · rename_i hc
        obtain ⟨h2, h⟩ := ifB_some h
        simp only [Option.some.injEq] at h; subst h
        simp only [vK, hx, hc]; exact ⟨Nat.le_of_ble_eq_true h2, hQ⟩
      · cases h
    · rename_i hx
      split at h
      · rename_i hc
        obtain ⟨h1, h⟩ := ifB_some h
        split at h
        · rename_i hj
          obtain ⟨h2, h⟩ := ifB_some h
          simp only [Option.some.injEq] at h; subst h
          simp only [vK, hx, hc, hj]; exact ⟨Nat.eq_of_beq_eq_true h1, Nat.le_of_ble_eq_true h2, hQ⟩
        · cases h
      · cases h
    · rename_i hx
      obtain ⟨h2, h⟩ := ifB_some h
      simp only [Option.some.injEq] at h; subst h
      simp only [vK, hx]; exact ⟨Nat.le_of_ble_eq_true h2, hQ⟩
    · cases h
  case isl sz ps =>
    simp only [cIsl, evq_eq] at h
    rw [omap_eq] at h
    split at h
    · rename_i hx
      obtain ⟨h1, h⟩ := ifB_some h
      simp only [Bool.and_eq_true] at h1
      simp only [Option.some.injEq] at h; subst h
      simp only [vK, hx]
      exact ⟨fun cs hcs => Nat.eq_of_beq_eq_true (List.all_eq_true.1 h1.1 cs hcs), List.all_eq_true.1 h1.2, hQ⟩
    · cases h
  case call f xs =>
    rw [evq_eq] at h
    exact pure_v he h Q hQ
  case callv x xs =>
    simp only [cCallv, evq_eq] at h
    split at h
    · rename_i hx
      simp only [vK, hx]
      split at h
      · split at h
        · rename_i hc
          obtain ⟨h1, h⟩ := ifB_some h
          simp only [Option.some.injEq] at h; subst h
          have h1 := leq_ok oeq_ok h1
          subst h1
          exact .inl ⟨_, _, he.hf _ _ _ _ _ hc, hQ⟩
        · cases h
      · exact .inr (pure_v he h Q hQ)
    · cases h
  case mkf f xs =>
    rw [evq_eq] at h
    simp only [Option.some.injEq] at h; subst h
    exact hQ
  case lku kk ok z x i =>
    simp only [cLku, evq_eq, nthO_eq] at h
    split at h
    · rename_i hx hi
      obtain ⟨h1, h⟩ := ifB_some h
      split at h
      · rename_i hc
        split at h
        · rename_i hf
          simp only [Option.some.injEq] at h; subst h
          simp only [vK, hx, hi, hc, hf]; exact ⟨h1, hQ⟩
        · cases h
      · cases h
    · cases h
  case bstr x =>
    simp only [cBstr, evq_eq] at h
    split at h
    · rename_i xs hx
      rw [omap_eq] at h
      split at h
      · rename_i l hm
        simp only [Option.some.injEq] at h; subst h
        refine ⟨l, ?_, hQ⟩
        rw [hx]
        congr 1
        obtain ⟨m1, m2⟩ := mapM_some hm
        apply List.ext_getElem?
        intro i
        rw [List.getElem?_map]
        rcases Nat.lt_or_ge i xs.length with hi | hi
        · obtain ⟨c, hc, hcc⟩ := m2 i xs[i] (List.getElem?_eq_getElem hi)
          rw [hc, List.getElem?_eq_getElem hi]
          unfold u8A at hcc
          split at hcc
          · rename_i n hn
            simp only [Option.some.injEq] at hcc
            rw [hn, hcc]; rfl
          · cases hcc
        · rw [List.getElem?_eq_none hi, List.getElem?_eq_none (by omega)]; rfl
      · cases h
    · cases h
  case isn x =>
    simp only [cIsn, evq_eq] at h
    split at h
    · rename_i hx
      simp only [Option.some.injEq] at h; subst h
      simp only [vK, hx]; exact hQ
    · rename_i hx
      simp only [Option.some.injEq] at h; subst h
      simp only [vK, hx]; exact hQ
    · cases h
end
end Go.Vm
end
section
-- the Vm layer, 40: code that is run outright
set_option linter.unusedVariables false
set_option linter.unusedSimpArgs false
namespace Go.Vm
open Go.RowKit

def resOkB (hp : Heap) : AV → Bool
  | .own o _ => match hp[o]? with | some (some (.row _ _ xs)) => xs.all fun x => x.all port | _ => false
  | _ => true
theorem resOkB_ok {hp : Heap} {a : AV} (h : resOkB hp a = true) : resOk hp a := by
  cases a with
  | own o n =>
    simp only [resOkB] at h
    simp only [resOk]
    split at h
    · rename_i ho
      simp only [ho]
      intro x hx a ha
      exact List.all_eq_true.1 (List.all_eq_true.1 h x hx) a ha
    · cases h
  | _ => trivial
/-- Operations that may change the heap. -/
def hv (hp : Heap) : Option AV → Option (AV × Heap) | some av => some (av, hp) | none => none
section
variable (e : Env) (s : St)
noncomputable def hCall (f : Nat) (us : List AV) : Option (AV × Heap) := match callE e s.hp f us with | some (r, b, T) => some (r, match b with | true => s.hp | false => dropAll s.hp T) | none => none
noncomputable def hCallv (x : Arg) (xs : List Arg) : Option (AV × Heap) := match evq s x with
  | .fn f caps => (match e.hs f with
    | true => e.hf f (xs.map (evq s) ++ caps) s.hp
    | false => hCall e s f (xs.map (evq s) ++ caps))
  | _ => none
noncomputable def hSt (fr : Bool) (n : Nat) (nl : List (Nat × Nat × Nat × Nat)) (x y : Arg) : Option (AV × Heap) := match cellsA (evq s y) with
  | some ds => ifB (Nat.beq ds.length n) (match evq s x with
    | .ptr o k => (match nthO s.hp o with
      | some (some (.box t cs)) => ifB (Nat.ble (k + n) cs.length) (match nilRows nl ds s.hp with | (es, hp) => some (.val undef, hp.set o (some (.box t (splice cs k es)))))
      | _ => none)
    | .eptr o m j k => (match nthO s.hp o with
      | some (some (.row t sz xs)) => ifB (Nat.beq xs.length m && (!fr || ds.all (resOkB s.hp))) (match nthO xs j, frz fr s.hp ds with
        | some cs, some (es, hp) => ifB (Nat.ble (k + n) cs.length) (match nthO hp o with
          | some (some (.row t' sz' xs')) => ifB (match fr with | true => oeq (some (.row t' sz' xs')) (some (.row t sz xs)) | false => true) (some (.val undef, hp.set o (some (.row t sz (xs.set j (splice cs k es))))))
          | _ => none)
        | _, _ => none)
      | _ => none)
    | _ => none)
  | none => none
noncomputable def hBsl (q : Nat) (fr : Bool) (t sz : Nat) (ps : List Arg) : Option (AV × Heap) := match omap (fun x => cellsA (evq s x)) ps with
  | some xs => ifB ((xs.all fun cs => Nat.beq cs.length sz) && (!fr || xs.flatten.all (resOkB s.hp))) (match frz fr s.hp xs.flatten with
    | some (ys, hp) => some (.own (mkAt hp q) xs.length, mkHp hp q (.row t sz (chunk sz xs.length ys)))
    | none => none)
  | none => none
noncomputable def hMks (q t sz : Nat) (zs : List Value) (n : Arg) : Option (AV × Heap) := match evq s n with
  | .val (.int .i64 m) => ifB (decide (0 ≤ m) && Nat.ble m.toNat 1000000) (some (.own (mkAt s.hp q) m.toNat, mkHp s.hp q (.row t sz (List.replicate m.toNat (zs.map .val)))))
  | _ => none
noncomputable def hApp (q t sz bytes : Nat) (x y : Arg) : Option (AV × Heap) := match asL s.hp (evq s y), ownL q t sz s.hp (evq s x) with
  | some ys, some (o, xs, hp) => ifB (Nat.ble ((xs.length + ys.length) * (bytes + 1)) 100000000000000 && ys.all fun cs => Nat.beq cs.length sz && cs.all one) (some (.own o (xs.length + ys.length), hp.set o (some (.row t sz (xs ++ ys)))))
  | _, _ => none
noncomputable def hNxt (x : Arg) : Option (AV × Heap) := match evq s x with
  | .ptr o 0 => (match nthO s.hp o with
    | some (some (.iter b pos)) => (match Nat.blt pos b.size with
      | true => some (.tup [.val (.bool true), .val (.int .i64 pos), .val (.int .i32 (Utf8.decode b pos).1)], s.hp.set o (some (.iter b (pos + (Utf8.decode b pos).2))))
      | false => some (.tup [.val (.bool false)], s.hp))
    | _ => none)
  | _ => none
noncomputable def hMup (kk : Option IntKind) (x i y : Arg) : Option (AV × Heap) := match evq s x, evq s i, evq s y with
  | .mp o, .val k, .val v => ifB (keyIs kk k && v.oneCell') (match nthO s.hp o with
    | some (some (.map es)) => (match mfind k es 0 with
      | some r => some (.val undef, s.hp.set o (some (.map (mput es k v r))))
      | none => none)
    | _ => none)
  | _, _, _ => none
noncomputable def hRng (q : Nat) (x : Arg) : Option (AV × Heap) := match evq s x with | .val (.string b) => some (.ptr (mkAt s.hp q) 0, mkHp s.hp q (.iter b 0)) | _ => none
/-! one for each kind, so that what is picked is a constant -/
end
noncomputable def aMov (x : Arg) (e : Env) (s : St) : Option (AV × Heap) := some (evq s x, s.hp)
noncomputable def aNil (q t sz : Nat) (e : Env) (s : St) : Option (AV × Heap) := some (.own (mkAt s.hp q) 0, mkHp s.hp q (.row t sz []))
noncomputable def aPick (c a b : Arg) (e : Env) (s : St) : Option (AV × Heap) := hv s.hp (cPick s c a b)
noncomputable def aSc (g : Sc) (xs : List Arg) (e : Env) (s : St) : Option (AV × Heap) := hv s.hp (cSc e s g xs)
noncomputable def aLen (st : Bool) (x : Arg) (e : Env) (s : St) : Option (AV × Heap) := hv s.hp (cLen s st x)
noncomputable def aLsl (sz : Nat) (x : Arg) (lo hi : Option Arg) (e : Env) (s : St) : Option (AV × Heap) := hv s.hp (cLsl s sz x lo hi)
noncomputable def aFld (x : Arg) (off n : Nat) (st : Bool) (e : Env) (s : St) : Option (AV × Heap) := hv s.hp (cFld s x off n st)
noncomputable def aExt (x : Arg) (j : Nat) (e : Env) (s : St) : Option (AV × Heap) := hv s.hp (cExt s x j)
noncomputable def aBld (zs : List Value) (ps : List (Nat × Nat × Arg)) (e : Env) (s : St) : Option (AV × Heap) := hv s.hp (cBld s zs ps)
noncomputable def aAlloc (q : Nat) (t : TypeId) (nl : List (Nat × Nat × Nat × Nat)) (zs : List Value) (e : Env) (s : St) : Option (AV × Heap) := runK e.P s (.alloc q t nl zs)
noncomputable def aBox (q : Nat) (t : TypeId) (nl : List (Nat × Nat × Nat × Nat)) (x : Arg) (e : Env) (s : St) : Option (AV × Heap) := runK e.P s (.box q t nl x)
noncomputable def aFa (x : Arg) (off : Nat) (e : Env) (s : St) : Option (AV × Heap) := hv s.hp (cFa s x off)
noncomputable def aIa (sz : Nat) (x i : Arg) (e : Env) (s : St) : Option (AV × Heap) := hv s.hp (cIa s sz x i)
noncomputable def aNck (x : Arg) (e : Env) (s : St) : Option (AV × Heap) := hv s.hp (cNck s x)
noncomputable def aLd (x : Arg) (n : Nat) (st : Bool) (e : Env) (s : St) : Option (AV × Heap) := hv s.hp (cLd s x n st)
noncomputable def aSt (fr : Bool) (n : Nat) (nl : List (Nat × Nat × Nat × Nat)) (x y : Arg) (e : Env) (s : St) : Option (AV × Heap) := hSt s fr n nl x y
noncomputable def aBsl (q : Nat) (fr : Bool) (t sz : Nat) (ps : List Arg) (e : Env) (s : St) : Option (AV × Heap) := hBsl s q fr t sz ps
noncomputable def aIsl (sz : Nat) (ps : List Arg) (e : Env) (s : St) : Option (AV × Heap) := hv s.hp (cIsl s sz ps)
noncomputable def aMks (q t sz : Nat) (zs : List Value) (n : Arg) (e : Env) (s : St) : Option (AV × Heap) := hMks s q t sz zs n
noncomputable def aApp (q t sz bytes : Nat) (x y : Arg) (e : Env) (s : St) : Option (AV × Heap) := hApp s q t sz bytes x y
noncomputable def aCall (f : Nat) (xs : List Arg) (e : Env) (s : St) : Option (AV × Heap) := hCall e s f (xs.map (evq s))
noncomputable def aCallv (x : Arg) (xs : List Arg) (e : Env) (s : St) : Option (AV × Heap) := hCallv e s x xs
noncomputable def aMkf (f : Nat) (xs : List Arg) (e : Env) (s : St) : Option (AV × Heap) := some (.fn f (xs.map (evq s)), s.hp)
noncomputable def aRng (q : Nat) (x : Arg) (e : Env) (s : St) : Option (AV × Heap) := hRng s q x
noncomputable def aNxt (x : Arg) (e : Env) (s : St) : Option (AV × Heap) := hNxt s x
noncomputable def aMkm (q : Nat) (e : Env) (s : St) : Option (AV × Heap) := some (.mp (mkAt s.hp q), mkHp s.hp q (.map []))
noncomputable def aLku (kk : Option IntKind) (ok : Bool) (z : Value) (x i : Arg) (e : Env) (s : St) : Option (AV × Heap) := hv s.hp (cLku s kk ok z x i)
noncomputable def aMup (kk : Option IntKind) (x i y : Arg) (e : Env) (s : St) : Option (AV × Heap) := hMup s kk x i y
noncomputable def aBstr (x : Arg) (e : Env) (s : St) : Option (AV × Heap) := hv s.hp (cBstr s x)
noncomputable def aIsn (x : Arg) (e : Env) (s : St) : Option (AV × Heap) := hv s.hp (cIsn s x)
noncomputable def evH (e : Env) (s : St) (k : K) : Option (AV × Heap) :=
  K.rec (motive := fun _ => Env → St → Option (AV × Heap)) aMov aNil aPick aSc aLen aLsl aFld aExt aBld aAlloc aBox aFa aIa aNck aLd aSt aBsl aIsl aMks aApp aCall aCallv aMkf aRng aNxt aMkm aLku aMup aBstr aIsn k e s

section
variable {e : Env} {s : St} {k : K} {av : AV} {hp' : Heap}
theorem pure_h (he : EnvOk e) {f : Nat} {us : List AV} (h : hCall e s f us = some (av, hp')) (Q : AV → Heap → Prop) (hQ : Q av hp') :
    ∃ T az, T.all (liveB s.hp) = true ∧ FzL s.hp T us az ∧ ∃ r, PureSpec e.P f az r ∧ (NoSz (T.map (rowSz s.hp)) r ∧ Q r s.hp ∨ Q r (dropAll s.hp T)) := by
  unfold hCall at h
  split at h
  · rename_i r b T hc
    simp only [Option.some.injEq, Prod.mk.injEq] at h
    obtain ⟨rfl, rfl⟩ := h
    obtain ⟨h1, az, h2, h3, h4⟩ := callE_ok he hc
    refine ⟨_, az, h1, h2, _, h3, ?_⟩
    cases b with
    | true =>
      rcases h4 rfl with h4 | rfl
      · exact .inl ⟨h4, hQ⟩
      · exact .inr hQ
    | false => exact .inr hQ
  · cases h
theorem evH_ok (he : EnvOk e) (h : evH e s k = some (av, hp')) : One e.P s k av hp' := by
  have base : ∀ k, hv s.hp (evV e s k) = some (av, hp') → One e.P s k av hp' := fun k h => by
    cases hk : evV e s k with
    | none => rw [hk] at h; cases h
    | some a =>
      rw [hk] at h
      simp only [hv, Option.some.injEq, Prod.mk.injEq] at h
      obtain ⟨rfl, rfl⟩ := h
      exact evV_ok he hk
  cases k <;> first | exact base _ h | exact runK_one h | skip
  case call f xs =>
    refine one_of fun Q hQ => ?_
    have h : hCall e s f (xs.map (evq s)) = some (av, hp') := h
    rw [evq_eq] at h
    exact pure_h he h Q hQ
  case callv x xs =>
    have h : hCallv e s x xs = some (av, hp') := h
    simp only [hCallv, evq_eq] at h
    split at h
    · rename_i hx
      refine one_of fun Q hQ => ?_
      simp only [vK, hx]
      split at h
      · exact .inl ⟨_, _, he.hf _ _ _ _ _ h, hQ⟩
      · exact .inr (pure_h he h Q hQ)
    · cases h
  case st fr n nl x y =>
    have h : hSt s fr n nl x y = some (av, hp') := h
    simp only [hSt, evq_eq, nthO_eq] at h
    split at h
    · rename_i hy
      obtain ⟨h1, h⟩ := ifB_some h
      have h1 := Nat.eq_of_beq_eq_true h1
      split at h
      · rename_i hx
        split at h
        · rename_i ho
          obtain ⟨h2, h⟩ := ifB_some h
          simp only [Option.some.injEq, Prod.mk.injEq] at h
          refine one_of fun Q hQ => ?_
          simp only [vK, hy, hx, ho]
          refine ⟨h1, Nat.le_of_ble_eq_true h2, ?_⟩
          rw [h.1, h.2]; exact hQ
        · cases h
      · rename_i hx
        split at h
        · rename_i ho
          obtain ⟨h2, h⟩ := ifB_some h
          simp only [Bool.and_eq_true, nbq, Bool.or_eq_true, Bool.not_eq_true'] at h2
          split at h
          · rename_i hj hf
            obtain ⟨h3, h⟩ := ifB_some h
            split at h
            · rename_i ho2
              obtain ⟨h4, h⟩ := ifB_some h
              simp only [Option.some.injEq, Prod.mk.injEq] at h
              refine one_of fun Q hQ => ?_
              simp only [vK, hy, hx, ho, hj, hf]
              refine ⟨h1, h2.1, fun hfr a ha => ?_, Nat.le_of_ble_eq_true h3, ?_, ?_⟩
              · rcases h2.2 with h5 | h5
                · rw [hfr] at h5; cases h5
                · exact resOkB_ok (List.all_eq_true.1 h5 a ha)
              · split at h4
                · rw [ho2, oeq_ok _ _ h4]
                · simp only [frz, Bool.false_eq_true, if_false, Option.some.injEq, Prod.mk.injEq] at hf
                  rw [← hf.2]; exact ho
              · rw [h.1, h.2]; exact hQ
            · cases h
          · cases h
        · cases h
      · cases h
    · cases h
  case bsl q fr t sz ps =>
    have h : hBsl s q fr t sz ps = some (av, hp') := h
    simp only [hBsl, evq_eq] at h
    rw [omap_eq] at h
    split at h
    · rename_i xs hx
      obtain ⟨h1, h⟩ := ifB_some h
      simp only [Bool.and_eq_true, Bool.or_eq_true, Bool.not_eq_true'] at h1
      split at h
      · rename_i hf
        simp only [Option.some.injEq, Prod.mk.injEq] at h
        refine one_of fun Q hQ => ?_
        simp only [vK, hx, hf]
        refine ⟨fun cs hcs => Nat.eq_of_beq_eq_true (List.all_eq_true.1 h1.1 cs hcs), fun hfr a ha => ?_, ?_⟩
        · rcases h1.2 with h5 | h5
          · rw [hfr] at h5; cases h5
          · exact resOkB_ok (List.all_eq_true.1 h5 a ha)
        · rw [h.1, h.2]; exact hQ
      · cases h
    · cases h
  case mks q t sz zs n =>
    have h : hMks s q t sz zs n = some (av, hp') := h
    simp only [hMks, evq_eq] at h
    split at h
    · rename_i hx
      obtain ⟨h1, h⟩ := ifB_some h
      simp only [Bool.and_eq_true, decide_eq_true_eq] at h1
      simp only [Option.some.injEq, Prod.mk.injEq] at h
      refine one_of fun Q hQ => ?_
      simp only [vK, hx]
      refine ⟨h1.1, Nat.le_of_ble_eq_true h1.2, ?_⟩
      rw [h.1, h.2]; exact hQ
    · cases h
  case app q t sz bytes x y =>
    have h : hApp s q t sz bytes x y = some (av, hp') := h
    simp only [hApp, evq_eq] at h
    split at h
    · rename_i hy hx
      obtain ⟨h1, h⟩ := ifB_some h
      simp only [Bool.and_eq_true] at h1
      simp only [Option.some.injEq, Prod.mk.injEq] at h
      refine one_of fun Q hQ => ?_
      simp only [vK, hx, hy]
      refine ⟨Nat.le_of_ble_eq_true h1.1, fun cs hcs => ?_, ?_⟩
      · have := List.all_eq_true.1 h1.2 cs hcs
        simp only [Bool.and_eq_true, nbq] at this
        exact this
      · rw [h.1, h.2]; exact hQ
    · cases h
  case nxt x =>
    have h : hNxt s x = some (av, hp') := h
    simp only [hNxt, evq_eq, nthO_eq] at h
    split at h
    · rename_i hx
      split at h
      · rename_i b pos ho
        split at h
        · rename_i hb
          simp only [Option.some.injEq, Prod.mk.injEq] at h
          have hb' : pos < b.size := by rw [← Nat.blt_eq]; exact hb
          refine one_of fun Q hQ => ?_
          simp only [vK, hx, ho]
          rw [if_pos hb', h.1, h.2]; exact hQ
        · rename_i hb
          simp only [Option.some.injEq, Prod.mk.injEq] at h
          refine one_of fun Q hQ => ?_
          simp only [vK, hx, ho]
          have hb' : ¬ pos < b.size := fun hlt => by rw [← Nat.blt_eq, hb] at hlt; cases hlt
          rw [if_neg hb', h.1, h.2]; exact hQ
      · cases h
    · cases h
  case mup kk x i y =>
    have h : hMup s kk x i y = some (av, hp') := h
    simp only [hMup, evq_eq, nthO_eq] at h
    split at h
    · rename_i hx hi hy
      obtain ⟨h1, h⟩ := ifB_some h
      simp only [Bool.and_eq_true] at h1
      split at h
      · rename_i ho
        split at h
        · rename_i hf
          simp only [Option.some.injEq, Prod.mk.injEq] at h
          refine one_of fun Q hQ => ?_
          simp only [vK, hx, hi, hy, ho, hf]
          refine ⟨h1.1, h1.2, ?_⟩
          rw [h.1, h.2]; exact hQ
        · cases h
      · cases h
    · cases h
  case rng q x =>
    have h : hRng s q x = some (av, hp') := h
    simp only [hRng, evq_eq] at h
    exact runK_one (k := .rng _ _) h
end

/-! ### in a row -/
def evG1 (want : Bool) : Option AV → Option Bool
  | some (.val (.bool b)) => (match want with | true => some b | false => some !b)
  | some (.val (.tuple _)) => some false
  | _ => none
noncomputable def evG (tm : List AV) (g : Option (Nat × Bool)) : Option Bool := Option.rec (motive := fun _ => Option Bool) (some true) (fun p => Prod.rec (motive := fun _ => Option Bool) (fun t want => evG1 want (nthO tm t)) p) g
theorem evG_T {tm : List AV} {g : Option (Nat × Bool)} {A C : Prop} (h : evG tm g = some true) (hA : A) : vG tm g A C := by
  cases g with
  | none => exact hA
  | some p =>
    obtain ⟨t, want⟩ := p
    have h : evG1 want (nthO tm t) = some true := h
    rw [nthO_eq] at h
    unfold evG1 at h
    split at h
    · rename_i b hb
      simp only [vG, hb]
      cases b <;> cases want <;> first | (simp at h; done) | (simpa using hA)
    · simp at h
    · cases h
theorem evG_F {tm : List AV} {g : Option (Nat × Bool)} {A C : Prop} (h : evG tm g = some false) (hC : C) : vG tm g A C := by
  cases g with
  | none => cases h
  | some p =>
    obtain ⟨t, want⟩ := p
    have h : evG1 want (nthO tm t) = some false := h
    rw [nthO_eq] at h
    unfold evG1 at h
    split at h
    · rename_i b hb
      simp only [vG, hb]
      cases b <;> cases want <;> first | (simp at h; done) | (simpa using hC)
    · rename_i hb; simp only [vG, hb]; exact hC
    · cases h
def evK1 (o : Option (AV × Heap)) (f : AV → Heap → Option St) : Option St := match o with | some (av, hp) => f av hp | none => none
noncomputable def evOps (e : Env) (l : List IOp) : St → Option St := List.rec (motive := fun _ => St → Option St) some (fun o _ ih s =>
  Option.rec (motive := fun _ => Option St) none (fun b => Bool.rec (motive := fun _ => Option St) (ih ⟨setT s.tm o.dst (.val undef), s.hp⟩) (evK1 (evH e s o.k) fun av hp => ih ⟨setT s.tm o.dst av, hp⟩) b) (evG s.tm o.g)) l
theorem evOps_ok {e : Env} (he : EnvOk e) {N : St → Prop} : ∀ (l : List IOp) (s s' : St), evOps e l s = some s' → N s' → vOps e.P N l s
  | [], s, s', h, hN => by
    have h : some s = some s' := h
    simp only [Option.some.injEq] at h; subst h; exact hN
  | o :: l, s, s', h, hN => by
    have h : Option.rec (motive := fun _ => Option St) none (fun b => Bool.rec (motive := fun _ => Option St) (evOps e l ⟨setT s.tm o.dst (.val undef), s.hp⟩) (evK1 (evH e s o.k) fun av hp => evOps e l ⟨setT s.tm o.dst av, hp⟩) b) (evG s.tm o.g) = some s' := h
    rw [setT_eq] at h
    simp only [vOps, put_eq]
    cases hg : evG s.tm o.g with
    | none => rw [hg] at h; cases h
    | some b =>
      rw [hg] at h
      cases b with
      | false => exact evG_F hg (evOps_ok he l _ s' h hN)
      | true =>
        have h : (evK1 (evH e s o.k) fun av hp => evOps e l ⟨setO s.tm o.dst av, hp⟩) = some s' := h
        unfold evK1 at h
        split at h
        · rename_i av hp hk
          exact evG_T hg ((evH_ok he hk).to (evOps_ok he l _ s' h hN))
        · cases h
/-- An operation that has run does at another heap what it did. -/
noncomputable def reB (e : Env) (tm : List AV) (hp : Heap) (k : Nat) (l : List DOp) : Bool := l.all fun j => !Nat.ble k j.hi || match evG tm j.o.g with
  | some true => (match evV e ⟨tm, hp⟩ j.o.k with | some a => (match j.o.dst with | some t => aeq 9 a (nthD .any tm t) | none => true) | none => false)
  | some false => true
  | none => false
theorem reB_ok {e : Env} (he : EnvOk e) {tm : List AV} {hp : Heap} {k : Nat} : ∀ {l : List DOp}, reB e tm hp k l = true → reAll e.P tm hp k l
  | [], _ => trivial
  | j :: l, h => by
    simp only [reB, List.all_cons, Bool.and_eq_true, Bool.or_eq_true, Bool.not_eq_true'] at h
    refine ⟨fun hk => ?_, reB_ok he (by simp only [reB]; exact h.2)⟩
    have h1 := h.1
    rcases h1 with h1 | h1
    · have : Nat.ble k j.hi = true := Nat.ble_eq_true_of_le hk
      rw [h1] at this; cases this
    · unfold reOk
      split at h1
      · rename_i hg
        split at h1
        · rename_i a ha
          refine evG_T hg ((evV_ok he ha).to ⟨?_, rfl⟩)
          unfold okV
          split at h1
          · rename_i t ht
            simp only [ht]
            rw [nthD_eq] at h1
            exact fun _ => aeq_ok _ _ _ h1
          · rename_i ht; simp only [ht]
        · cases h1
      · rename_i hg; exact evG_F hg trivial
      · cases h1
noncomputable def oldB (e : Env) (tm : List AV) (av : AV) (k : K) (lo : Nat) : Nat → List Heap → Bool
  | c, h :: h' :: r => (!Nat.ble lo c || match evV e ⟨tm, h⟩ k with | some a => aeq 9 a av | none => false) && oldB e tm av k lo (c + 1) (h' :: r)
  | _, _ => true
theorem oldB_ok {e : Env} (he : EnvOk e) {tm : List AV} {av : AV} {k : K} {lo : Nat} : ∀ {hs : List Heap} {c : Nat}, oldB e tm av k lo c hs = true → oldAll e.P tm av k lo c hs
  | [], _, _ => trivial
  | [_], _, _ => trivial
  | h :: h' :: r, c, hb => by
    simp only [oldB, Bool.and_eq_true, Bool.or_eq_true, Bool.not_eq_true'] at hb
    refine ⟨fun hlo => ?_, oldB_ok he hb.2⟩
    rcases hb.1 with h1 | h1
    · have : Nat.ble lo c = true := Nat.ble_eq_true_of_le hlo
      rw [h1] at this; cases this
    · split at h1
      · rename_i a ha
        exact (evV_ok he ha).to ⟨aeq_ok _ _ _ h1, rfl⟩
      · cases h1
noncomputable def evDraw (e : Env) : List DOp → List Heap → List DOp → St → Option St
  | _, _, [], s => some s
  | past, hs, d :: l, s => match isMk d with
    | true => ifB (Nat.beq hs.length 1) (match evH e s d.o.k with | some (av, hp) => evDraw e (past ++ [d]) [hp] l ⟨setO s.tm d.o.dst av, hp⟩ | none => none)
    | false => match d.eff, evG s.tm d.o.g with
      | true, some true => (match evH e s d.o.k with | some (av, hp) => ifB (reB e (setO s.tm d.o.dst av) hp hs.length past) (evDraw e past (hs ++ [hp]) l ⟨setO s.tm d.o.dst av, hp⟩) | none => none)
      | true, some false => ifB (reB e (setO s.tm d.o.dst (.val undef)) s.hp hs.length past) (evDraw e past (hs ++ [s.hp]) l ⟨setO s.tm d.o.dst (.val undef), s.hp⟩)
      | false, some true => (match evV e s d.o.k with | some av => ifB (oldB e s.tm av d.o.k d.lo 0 hs) (evDraw e (past ++ [d]) hs l ⟨setO s.tm d.o.dst av, s.hp⟩) | none => none)
      | false, some false => evDraw e (past ++ [d]) hs l ⟨setO s.tm d.o.dst (.val undef), s.hp⟩
      | _, none => none
theorem evDraw_ok {e : Env} (he : EnvOk e) {N : St → Prop} : ∀ (l past : List DOp) (hs : List Heap) (s s' : St), evDraw e past hs l s = some s' → N s' → vDraw e.P N past hs l s
  | [], past, hs, s, s', h, hN => by simp only [evDraw, Option.some.injEq] at h; subst h; exact hN
  | d :: l, past, hs, s, s', h, hN => by
    simp only [evDraw] at h
    simp only [vDraw, put_eq]
    split at h
    · rename_i hm
      rw [if_pos hm]
      obtain ⟨h1, h⟩ := ifB_some h
      split at h
      · rename_i hk
        exact ⟨Nat.eq_of_beq_eq_true h1, (evH_ok he hk).to (evDraw_ok he l _ _ _ s' h hN)⟩
      · cases h
    · rename_i hm
      rw [if_neg (by rw [hm]; simp)]
      split at h
      · rename_i heff hg
        rw [if_pos heff]
        split at h
        · rename_i hk
          obtain ⟨h1, h⟩ := ifB_some h
          exact evG_T hg ((evH_ok he hk).to ⟨reB_ok he h1, evDraw_ok he l _ _ _ s' h hN⟩)
        · cases h
      · rename_i heff hg
        rw [if_pos heff]
        obtain ⟨h1, h⟩ := ifB_some h
        exact evG_F hg ⟨reB_ok he h1, evDraw_ok he l _ _ _ s' h hN⟩
      · rename_i heff hg
        rw [if_neg (by rw [heff]; simp)]
        split at h
        · rename_i hk
          obtain ⟨h1, h⟩ := ifB_some h
          exact evG_T hg ((evV_ok he hk).to ⟨rfl, oldB_ok he h1, evDraw_ok he l _ _ _ s' h hN⟩)
        · cases h
      · rename_i heff hg
        rw [if_neg (by rw [heff]; simp)]
        exact evG_F hg (evDraw_ok he l _ _ _ s' h hN)
      · cases h
end Go.Vm
end
section
-- the Vm layer, 41: functions that are run outright
set_option linter.unusedVariables false
set_option linter.unusedSimpArgs false
namespace Go.Vm
open Go.RowKit

inductive Out where
  | n (s : St)
  | x (id : Nat) (s : St)
  | r (s : St)
def postO (R : St → Prop) (E : Nat → St → Prop) (N : St → Prop) : Out → Prop
  | .n s => N s
  | .x id s => E id s
  | .r s => R s
def bindN (f : St → Option (List Out)) : List Out → Option (List Out)
  | [] => some []
  | .n s :: l => (match f s, bindN f l with | some a, some b => some (a ++ b) | _, _ => none)
  | .x i s :: l => (match bindN f l with | some b => some (.x i s :: b) | none => none)
  | .r s :: l => (match bindN f l with | some b => some (.r s :: b) | none => none)
theorem bindN_get {f : St → Option (List Out)} : ∀ {l os : List Out}, bindN f l = some os → ∀ o ∈ l, (∃ s, o = .n s ∧ ∃ a, f s = some a ∧ ∀ x ∈ a, x ∈ os) ∨ ((∀ s, o ≠ .n s) ∧ o ∈ os)
  | [], os, h, o, ho => by cases ho
  | .n s0 :: l, os, h, o, ho => by
    simp only [bindN] at h
    split at h
    · rename_i a b ha hb
      simp only [Option.some.injEq] at h; subst h
      rcases List.mem_cons.1 ho with rfl | ho
      · exact .inl ⟨_, rfl, _, ha, fun x hx => List.mem_append_left _ hx⟩
      · rcases bindN_get hb o ho with ⟨s, h1, a', h2, h3⟩ | ⟨h1, h2⟩
        · exact .inl ⟨s, h1, a', h2, fun x hx => List.mem_append_right _ (h3 x hx)⟩
        · exact .inr ⟨h1, List.mem_append_right _ h2⟩
    · cases h
  | .x i0 s0 :: l, os, h, o, ho => by
    simp only [bindN] at h
    split at h
    · rename_i b hb
      simp only [Option.some.injEq] at h; subst h
      rcases List.mem_cons.1 ho with rfl | ho
      · exact .inr ⟨fun s e => (by cases e), by simp⟩
      · rcases bindN_get hb o ho with ⟨s, h1, a', h2, h3⟩ | ⟨h1, h2⟩
        · exact .inl ⟨s, h1, a', h2, fun x hx => List.mem_cons_of_mem _ (h3 x hx)⟩
        · exact .inr ⟨h1, List.mem_cons_of_mem _ h2⟩
    · cases h
  | .r s0 :: l, os, h, o, ho => by
    simp only [bindN] at h
    split at h
    · rename_i b hb
      simp only [Option.some.injEq] at h; subst h
      rcases List.mem_cons.1 ho with rfl | ho
      · exact .inr ⟨fun s e => (by cases e), by simp⟩
      · rcases bindN_get hb o ho with ⟨s, h1, a', h2, h3⟩ | ⟨h1, h2⟩
        · exact .inl ⟨s, h1, a', h2, fun x hx => List.mem_cons_of_mem _ (h3 x hx)⟩
        · exact .inr ⟨h1, List.mem_cons_of_mem _ h2⟩
    · cases h
noncomputable def loopE (f : St → Option (List Out)) (n : Nat) : St → Option (List Out) := Nat.rec (motive := fun _ => St → Option (List Out)) (fun _ => none) (fun _ ih s => match f s with | some os => bindN ih os | none => none) n
def blockE (id : Nat) : Out → Out
  | .x i s => match Nat.beq i id with | true => .n s | false => .x i s
  | o => o
def lowO (m : Nat) : Option AObj → Bool
  | some z => belowO m z
  | none => true
theorem wk_take {m : Nat} : ∀ (k : Nat) {hp : Heap}, (hp.take k).all (lowO m) = true → wkHp m hp (hp.take k)
  | 0, hp, _ => by cases hp <;> trivial
  | k + 1, [], _ => trivial
  | k + 1, x :: hp, h => by
    simp only [List.take_succ_cons, List.all_cons, Bool.and_eq_true] at h
    refine ⟨.inr ⟨rfl, ?_⟩, wk_take k h.2⟩
    cases x with
    | none => rfl
    | some z => exact h.1
def cutE (n : Nat) (hp : Heap) : Heap := (hp.take n).map fun x => match x with | some z => (match belowO n z with | true => some z | false => none) | none => none
theorem cutE_ok {n : Nat} : ∀ (k : Nat) (hp : Heap), wkHp n hp ((hp.take k).map fun x => match x with | some z => (match belowO n z with | true => some z | false => none) | none => none)
  | 0, hp => by cases hp <;> trivial
  | k + 1, [] => trivial
  | k + 1, x :: hp => by
    refine ⟨?_, cutE_ok k hp⟩
    cases x with
    | none => exact .inl rfl
    | some z =>
      dsimp only
      split
      · rename_i hb; exact .inr ⟨rfl, hb⟩
      · exact .inl rfl
def rdE (f : St → Option (List Out)) (s : St) (ps : List Nat) (mv : List (Nat × Nat)) (y : List AV) (hp : Heap) : Option Heap := match f ⟨moveAll (setAll s.tm ps y) mv, hp⟩ with
  | some [.n s'] => (match cutE s.hp.length s'.hp with | h => ifB (Nat.beq h.length s.hp.length && lowB s.hp h) (some h))
  | _ => none
def safeE (rd : List AV → Heap → Option Heap) (xs : List (List AV)) : Nat → Heap → Bool
  | 0, _ => true
  | k + 1, hp => xs.all fun y => match rd y hp with | some h => safeE rd xs k h | none => false
def foldE (rd : List AV → Heap → Option Heap) : List (List AV) → Heap → Option Heap
  | [], hp => some hp
  | y :: l, hp => match rd y hp with | some h => foldE rd l h | none => none
theorem foldE_snoc {rd : List AV → Heap → Option Heap} : ∀ {l : List (List AV)} {y : List AV} {hp h h' : Heap}, foldE rd l hp = some h → rd y h = some h' → foldE rd (l ++ [y]) hp = some h'
  | [], y, hp, h, h', e, k => by simp only [foldE, Option.some.injEq] at e; subst e; simp [foldE, k]
  | z :: l, y, hp, h, h', e, k => by
    simp only [foldE] at e
    simp only [List.cons_append, foldE]
    split at e
    · exact foldE_snoc e k
    · cases e
theorem lowOf_refl (h : Heap) : lowOf h h := fun o x hx hn => ⟨x, hx, by cases x <;> first | rfl | cases hn⟩

/-! code: one constant for each kind -/
def EvT : Type := Env → Nat → St → Option (List Out)
noncomputable def bSkip : EvT := fun e L s => some [.n s]
noncomputable def bBad : EvT := fun e L s => none
def bS (o : Option St) : Option (List Out) := match o with | some s' => some [.n s'] | none => none
noncomputable def bOps (l : List IOp) : EvT := fun e L s => bS (evOps e l s)
noncomputable def bDraw (q : List Nat) (l : List DOp) : EvT := fun e L s => ifB (noHoles s.hp q) (match s.hp ++ q.map (fun i => some (.hole i)) with
    | hp => bS (evDraw e [] [hp] l ⟨s.tm, hp⟩))
noncomputable def bSeq (a b : IC) (fa fb : EvT) : EvT := fun e L s => match fa e L s with | some os => bindN (fb e L) os | none => none
def bFork (x y : Option (List Out)) : Option (List Out) := match x, y with | some x, some y => some (x ++ y) | _, _ => none
noncomputable def bCond (c : Arg) (a b : IC) (fa fb : EvT) : EvT := fun e L s => match evq s c with
    | .val (.bool t) => Bool.rec (motive := fun _ => Option (List Out)) (fb e L s) (fa e L s) t
    | .bl => bFork (fa e L s) (fb e L s)
    | _ => none
noncomputable def bBlock (id : Nat) (a : IC) (fa : EvT) : EvT := fun e L s => match fa e L s with | some os => some (os.map (blockE id)) | none => none
noncomputable def bLoop (a : IC) (fa : EvT) : EvT := fun e L s => loopE (fa e L) L s
noncomputable def bExit (id : Nat) : EvT := fun e L s => some [.x id s]
noncomputable def bRet : EvT := fun e L s => some [.r s]
noncomputable def bRf (xs : List (List AV)) (f : St → Option (List Out)) (s : St) (ps : List Nat) (mv : List (Nat × Nat)) : Option (List Out) :=
  ifB ((xs.all fun y => Nat.beq y.length ps.length && y.all fun a => (toV a).isSome) && safeE (rdE f s ps mv) xs xs.length s.hp)
    (match foldE (rdE f s ps mv) xs s.hp with | some h => some [.n ⟨s.tm, h⟩] | none => none)
noncomputable def bRfun (x : Arg) (ps : List Nat) (mv : List (Nat × Nat)) (b : IC) (fb : EvT) : EvT := fun e L s => match evq s x with
    | .fn g caps => (match omap (frzE s.hp [] 9) caps with
      | some caps' => (match e.it g caps' with
        | some xs => bRf xs (fb e L) s ps mv
        | none => none)
      | none => none)
    | _ => none
noncomputable def evI (ic : IC) : EvT := IC.rec (motive := fun _ => EvT) bSkip bBad bOps bDraw bSeq bCond bBlock bLoop bExit bRet bRfun ic
noncomputable def evC (e : Env) (L : Nat) (ic : IC) (s : St) : Option (List Out) := evI ic e L s

theorem evC_ok {e : Env} (he : EnvOk e) (L : Nat) : ∀ (ic : IC) (s : St) (os : List Out), evC e L ic s = some os → ∀ (m0 : Nat) (R : St → Prop) (E : Nat → St → Prop) (N : St → Prop), (∀ o ∈ os, postO R E N o) → vC e.P m0 R ic E N s := by
  intro ic
  induction ic with
  | skip => intro s os h m0 R E N hp; have h : some [Out.n s] = some os := h; simp only [Option.some.injEq] at h; subst h; exact hp (.n s) (by simp)
  | bad => intro s os h; cases h
  | ops l =>
    intro s os h m0 R E N hp
    have h : bS (evOps e l s) = some os := h
    unfold bS at h
    split at h
    · rename_i s' hs
      simp only [Option.some.injEq] at h; subst h
      exact evOps_ok he l s s' hs (hp (.n s') (by simp))
    · cases h
  | draw q l =>
    intro s os h m0 R E N hp
    have h : ifB (noHoles s.hp q) (bS (evDraw e [] [s.hp ++ q.map (fun i => some (.hole i))] l ⟨s.tm, s.hp ++ q.map (fun i => some (.hole i))⟩)) = some os := h
    unfold bS at h
    obtain ⟨h1, h⟩ := ifB_some h
    split at h
    · rename_i s' hs
      simp only [Option.some.injEq] at h; subst h
      exact ⟨h1, evDraw_ok he l _ _ _ s' hs (hp (.n s') (by simp))⟩
    · cases h
  | seq a b iha ihb =>
    intro s os h m0 R E N hp
    have h : (match evC e L a s with | some os => bindN (evC e L b) os | none => none) = some os := h
    split at h
    · rename_i os1 h1
      refine iha s os1 h1 m0 R E _ (fun o ho => ?_)
      rcases bindN_get h o ho with ⟨s', rfl, a', h2, h3⟩ | ⟨h2, h3⟩
      · exact ⟨s', .inl rfl, ihb s' a' h2 m0 R E N (fun x hx => hp x (h3 x hx))⟩
      · cases o with
        | n s => exact (h2 s rfl).elim
        | x id s => exact hp _ h3
        | r s => exact hp _ h3
    · cases h
  | cond c a b iha ihb =>
    intro s os h m0 R E N hp
    have h : (match evq s c with
      | .val (.bool t) => Bool.rec (motive := fun _ => Option (List Out)) (evC e L b s) (evC e L a s) t
      | .bl => bFork (evC e L a s) (evC e L b s)
      | _ => none) = some os := h
    simp only [evq_eq] at h
    simp only [vC]
    split at h
    · rename_i t hc
      simp only [hc]
      cases t with
      | true => simp only [if_true]; exact iha s os h m0 R E N hp
      | false => simp only [Bool.false_eq_true, if_false]; exact ihb s os h m0 R E N hp
    · rename_i hc
      unfold bFork at h
      split at h
      · rename_i x y hx hy
        simp only [Option.some.injEq] at h; subst h
        simp only [hc]
        exact ⟨iha s x hx m0 R E N (fun o ho => hp o (List.mem_append_left _ ho)), ihb s y hy m0 R E N (fun o ho => hp o (List.mem_append_right _ ho))⟩
      · cases h
    · cases h
  | block id a iha =>
    intro s os h m0 R E N hp
    have h : (match evC e L a s with | some os => some (os.map (blockE id)) | none => none) = some os := h
    split at h
    · rename_i os1 h1
      simp only [Option.some.injEq] at h; subst h
      refine iha s os1 h1 m0 R _ N (fun o ho => ?_)
      have h2 := hp (blockE id o) (List.mem_map_of_mem ho)
      cases o with
      | n s => exact h2
      | r s => exact h2
      | x i s =>
        simp only [blockE] at h2
        simp only [postO]
        split at h2
        · rename_i hb; rw [if_pos (Nat.eq_of_beq_eq_true hb)]; exact h2
        · rename_i hb
          rw [if_neg (fun hi => by rw [hi, Nat.beq_refl] at hb; cases hb)]; exact h2
    · cases h
  | loop a iha =>
    intro s os h m0 R E N hp
    have h : loopE (evC e L a) L s = some os := h
    refine ⟨fun m s => ∃ os, loopE (evC e L a) m s = some os ∧ ∀ o ∈ os, postO R E (fun _ => False) o ∨ ∃ s, o = .n s, ⟨L, s, .inl rfl, os, h, fun o ho => ?_⟩, ?_⟩
    · cases o with
      | n s => exact .inr ⟨s, rfl⟩
      | x id s => exact .inl (hp _ ho)
      | r s => exact .inl (hp _ ho)
    · rintro m s ⟨os, h, hp⟩
      cases m with
      | zero => cases h
      | succ m =>
        have h : (match evC e L a s with | some os => bindN (loopE (evC e L a) m) os | none => none) = some os := h
        split at h
        · rename_i os1 h1
          refine iha s os1 h1 m0 R E _ (fun o ho => ?_)
          rcases bindN_get h o ho with ⟨s', rfl, a', h2, h3⟩ | ⟨h2, h3⟩
          · exact ⟨m, by omega, s', .inl rfl, a', h2, fun o ho => hp o (h3 o ho)⟩
          · rcases hp o h3 with h4 | ⟨s', h4⟩
            · cases o with
              | n s => exact (h2 s rfl).elim
              | x id s => exact h4
              | r s => exact h4
            · exact (h2 s' h4).elim
        · cases h
  | exit id => intro s os h m0 R E N hp; have h : some [Out.x id s] = some os := h; simp only [Option.some.injEq] at h; subst h; exact hp (.x id s) (by simp)
  | ret => intro s os h m0 R E N hp; have h : some [Out.r s] = some os := h; simp only [Option.some.injEq] at h; subst h; exact hp (.r s) (by simp)
  | rfun x ps mv b ihb =>
    intro s os h m0 R E N hp
    have h : (match evq s x with
      | .fn g caps => (match omap (frzE s.hp [] 9) caps with
        | some caps' => (match e.it g caps' with
          | some xs => bRf xs (evC e L b) s ps mv
          | none => none)
        | none => none)
      | _ => none) = some os := h
    simp only [evq_eq, bRf] at h
    split at h
    · rename_i g caps hx
      split at h
      · rename_i caps' hc
        split at h
        · rename_i xs hxs
          obtain ⟨h1, h⟩ := ifB_some h
          simp only [Bool.and_eq_true] at h1
          split at h
          · rename_i hfin hf
            simp only [Option.some.injEq] at h; subst h
            generalize hrd : rdE (evC e L b) s ps mv = rd at h1 hf
            refine ⟨g, caps, caps', xs, fun ys hp => foldE rd ys s.hp = some hp ∧ safeE rd xs (xs.length - ys.length) hp = true ∧ hp.length = s.hp.length ∧ lowOf s.hp hp, hx, frzEL_ok hc, he.it _ _ _ hxs, fun y hy => ?_, ⟨rfl, by simpa using h1.2, rfl, lowOf_refl _⟩, fun ys hp hJ => hJ.2.2, ?_, ?_⟩
            · have := List.all_eq_true.1 h1.1 y hy
              simp only [Bool.and_eq_true, nbq] at this
              exact ⟨this.1, List.all_eq_true.1 this.2⟩
            · rintro ys y hp0 ⟨j1, j2, j3, j4⟩ hy hlt
              have e1 : xs.length - ys.length = (xs.length - (ys ++ [y]).length) + 1 := by simp; omega
              rw [e1] at j2
              simp only [safeE] at j2
              have j5 := List.all_eq_true.1 j2 y hy
              split at j5
              · rename_i h' hr
                have hr' := hr
                rw [← hrd] at hr'
                unfold rdE at hr'
                split at hr'
                · rename_i s' hs'
                  simp only at hr'
                  obtain ⟨k1, k2⟩ := ifB_some hr'
                  simp only [Bool.and_eq_true, nbq] at k1
                  simp only [Option.some.injEq] at k2
                  refine ihb _ _ hs' _ _ _ _ (fun o ho => ?_)
                  simp only [List.mem_cons, List.not_mem_nil, or_false] at ho
                  subst ho
                  refine ⟨h', ⟨by rw [← k2]; exact k1.1, by rw [← k2]; exact cutE_ok _ _⟩, foldE_snoc j1 hr, j5, by rw [← k2]; exact k1.1, by rw [← k2]; exact lowB_ok k1.2⟩
                · cases hr'
              · cases j5
            · rintro hp0 ⟨j1, _⟩
              rw [hf] at j1
              simp only [Option.some.injEq] at j1
              subst j1
              exact hp (.n _) (by simp)
          · cases h
        · cases h
      · cases h
    · cases h

/-! ### functions -/
def outS : Out → Option St
  | .n s | .r s => some s
  | .x .. => none
noncomputable def retE (P : Program) (rs : List ResultVar) (s : St) : Option AV := match rs.mapM (resA P s) with
  | some az => (match omap (frzE s.hp (az.flatMap (tE s.hp 9)) 9) az with | some bs => some (packA bs) | none => none)
  | none => none
def oneOf {α : Type} (q : α → α → Bool) (f : St → Option α) : List Out → Option α
  | [] => none
  | o :: l => match outS o with
    | some s => (match f s with
      | some r => ifB (l.all fun o => match outS o with | some s => (match f s with | some r' => q r' r | none => false) | none => false) (some r)
      | none => none)
    | none => none
theorem oneOf_ok {α : Type} {q : α → α → Bool} (hq : ∀ a b, q a b = true → a = b) {f : St → Option α} {os : List Out} {r : α} (h : oneOf q f os = some r) : ∀ o ∈ os, ∃ s, outS o = some s ∧ f s = some r := by
  cases os with
  | nil => cases h
  | cons o l =>
    simp only [oneOf] at h
    split at h
    · rename_i s hs
      split at h
      · rename_i r0 hr
        obtain ⟨h1, h⟩ := ifB_some h
        simp only [Option.some.injEq] at h; subst h
        intro o' ho
        rcases List.mem_cons.1 ho with rfl | ho
        · exact ⟨s, hs, hr⟩
        · have h2 := List.all_eq_true.1 h1 o' ho
          split at h2
          · rename_i s' hs'
            split at h2
            · rename_i r' hr'
              exact ⟨s', hs', by rw [hr', hq _ _ h2]⟩
            · cases h2
          · cases h2
      · cases h
    · cases h
def hpE (m0 : Nat) (az : List AV) (hp : Heap) : Nat := match az.all (belowA m0) && (hp.take m0).all (lowO m0) with
  | true => m0
  | false => hp.length
noncomputable def retHE (P : Program) (rs : List ResultVar) (m0 : Nat) (s : St) : Option (AV × Heap) := match rs.mapM (resA P s) with
  | some az => (match s.hp.take (hpE m0 az s.hp) with
    | hp' => ifB (Nat.ble m0 hp'.length && az.all (belowA hp'.length) && hp'.all (lowO hp'.length)) (some (packA az, hp')))
  | none => none
theorem wkTm_refl {m : Nat} : ∀ {l : List AV}, l.all (belowA m) = true → wkTm m l l
  | [], _ => trivial
  | a :: l, h => by
    simp only [List.all_cons, Bool.and_eq_true] at h
    exact ⟨.inr ⟨rfl, h.1⟩, wkTm_refl h.2⟩
noncomputable def runPE (P : Program) (e : Env) (L : Nat) (H : Hint) (f : Nat) (az : List AV) : Option AV := match fnIC P H f with
  | some (rs, n, ic) => (match evC e L ic (start n az []) with | some os => oneOf (aeq 9) (retE P rs) os | none => none)
  | none => none
noncomputable def runHE (P : Program) (e : Env) (L : Nat) (H : Hint) (f : Nat) (az : List AV) (hp : Heap) : Option (AV × Heap) := match fnIC P H f with
  | some (rs, n, ic) => (match evC e L ic (start n az hp) with | some os => oneOf (fun a b => aeq 9 a.1 b.1 && leq oeq a.2 b.2) (retHE P rs hp.length) os | none => none)
  | none => none
theorem runPE_ok {e : Env} (he : EnvOk e) (hmix : e.P.follows .mixedOrders = true) {L : Nat} {H : Hint} {f : Nat} {az : List AV} {r : AV} (h : runPE e.P e L H f az = some r) : PureSpec e.P f az r := by
  unfold runPE at h
  split at h
  · rename_i rs n ic hf
    split at h
    · rename_i os ho
      have key := oneOf_ok (fun a b => aeq_ok 9 a b) h
      have fin : ∀ s, retE e.P rs s = some r → retP e.P rs r s := fun s hs => by
        unfold retE at hs
        split at hs
        · rename_i us hu
          split at hs
          · rename_i bs hb
            simp only [Option.some.injEq] at hs
            exact ⟨us, bs, _, hu, frzEL_ok hb, hs⟩
          · cases hs
        · cases hs
      refine pure_of hmix hf (evC_ok he L ic _ os ho 0 _ _ _ (fun o hm => ?_))
      obtain ⟨s, h1, h2⟩ := key o hm
      cases o with
      | n s' => simp only [outS, Option.some.injEq] at h1; subst h1; exact fin _ h2
      | r s' => simp only [outS, Option.some.injEq] at h1; subst h1; exact fin _ h2
      | x id s' => cases h1
    · cases h
  · cases h
theorem runHE_ok {e : Env} (he : EnvOk e) (hmix : e.P.follows .mixedOrders = true) {L : Nat} {H : Hint} {f : Nat} {az : List AV} {hp hp' : Heap} {r : AV} (h : runHE e.P e L H f az hp = some (r, hp')) : HSpec e.P f az hp r hp' := by
  unfold runHE at h
  split at h
  · rename_i rs n ic hf
    split at h
    · rename_i os ho
      have key := oneOf_ok (fun a b hab => by
        simp only [Bool.and_eq_true] at hab
        exact Prod.ext (aeq_ok _ _ _ hab.1) (leq_ok oeq_ok hab.2)) h
      have fin : ∀ s, retHE e.P rs hp.length s = some (r, hp') → retH e.P rs hp.length r hp' s := fun s hs => by
        unfold retHE at hs
        split at hs
        · rename_i us hu
          simp only at hs
          obtain ⟨k1, k2⟩ := ifB_some hs
          simp only [Bool.and_eq_true] at k1
          simp only [Option.some.injEq, Prod.mk.injEq] at k2
          obtain ⟨rfl, rfl⟩ := k2
          exact ⟨us, us, hu, ⟨Nat.le_of_ble_eq_true k1.1.1, wkTm_refl k1.1.2, wk_take _ k1.2⟩, rfl⟩
        · cases hs
      refine heap_of hmix hf (evC_ok he L ic _ os ho _ _ _ _ (fun o hm => ?_))
      obtain ⟨s, h1, h2⟩ := key o hm
      cases o with
      | n s' => simp only [outS, Option.some.injEq] at h1; subst h1; exact fin _ h2
      | r s' => simp only [outS, Option.some.injEq] at h1; subst h1; exact fin _ h2
      | x id s' => cases h1
    · cases h
  · cases h
/-- A program's functions, run to a depth; some calls are known ahead. -/
def orE (a b : Option AV) : Option AV := match a with | some r => some r | none => b
noncomputable def envE (P : Program) (hs : Nat → Bool) (Hf : Nat → Hint) (it : Nat → List AV → Option (List (List AV))) (mm : Nat → List AV → Option AV) (L : Nat) (n : Nat) : Env :=
  Nat.rec (motive := fun _ => Env) ⟨P, hs, mm, fun _ _ _ => none, it⟩
    (fun _ e => ⟨P, hs, fun f us => orE (mm f us) (runPE P e L (Hf f) f us), fun f us hp => runHE P e L (Hf f) f us hp, it⟩) n
section
variable {P : Program} {hs : Nat → Bool} {Hf : Nat → Hint} {it : Nat → List AV → Option (List (List AV))} {mm : Nat → List AV → Option AV} {L : Nat}
theorem envE_P (n : Nat) : (envE P hs Hf it mm L n).P = P := by cases n <;> rfl
theorem envE_ok (hmix : P.follows .mixedOrders = true) (hit : ∀ g caps xs, it g caps = some xs → IterSpec P g caps xs) (hmm : ∀ f us r, mm f us = some r → PureSpec P f us r) : ∀ n, EnvOk (envE P hs Hf it mm L n)
  | 0 => ⟨hmm, fun f us hp r hp' h => (by cases h), hit⟩
  | n + 1 => by
    have ih := envE_ok hmix hit hmm n
    refine ⟨fun f us r h => ?_, fun f us hp r hp' h => ?_, hit⟩
    · have h : orE (mm f us) (runPE P (envE P hs Hf it mm L n) L (Hf f) f us) = some r := h
      unfold orE at h
      split at h
      · rename_i hk
        rw [← Option.some.inj h]
        exact hmm _ _ _ hk
      · have := runPE_ok ih (by rw [envE_P]; exact hmix) (L := L) (H := Hf f) (f := f) (az := us) (r := r) (by rw [envE_P]; exact h)
        rw [envE_P] at this
        exact this
    · have h : runHE P (envE P hs Hf it mm L n) L (Hf f) f us hp = some (r, hp') := h
      have := runHE_ok ih (by rw [envE_P]; exact hmix) (L := L) (H := Hf f) (f := f) (az := us) (hp := hp) (r := r) (hp' := hp') (by rw [envE_P]; exact h)
      rw [envE_P] at this
      exact this
/-- Calls whose results are known. -/
def mmE : List (Nat × List AV × AV) → Nat → List AV → Option AV
  | [], _, _ => none
  | (g, vs, r) :: l, f, us => match Nat.beq g f && leq (aeq 9) vs us with | true => some r | false => mmE l f us
theorem mmE_ok : ∀ {l : List (Nat × List AV × AV)}, (∀ x ∈ l, PureSpec P x.1 x.2.1 x.2.2) → ∀ f us r, mmE l f us = some r → PureSpec P f us r
  | [], _, f, us, r, h => by cases h
  | (g, vs, r0) :: l, hl, f, us, r, h => by
    unfold mmE at h
    split at h
    · rename_i hb
      simp only [Bool.and_eq_true, nbq] at hb
      simp only [Option.some.injEq] at h
      have := hl (g, vs, r0) (by simp)
      rw [← hb.1, ← leq_ok (aeq_ok 9) hb.2, ← h]
      exact this
    · exact mmE_ok (fun x hx => hl x (by simp [hx])) f us r h
end
end Go.Vm
end
section
/- The set's examples (the function sanity) return true: run by the evaluator. -/
namespace Go.Proofs
open Go.Vm
def hsE (f : Nat) : Bool := [22, 77, 68, 69, 103, 66, 25, 63, 100, 102].contains f
def HfE (f : Nat) : Hint := ⟨[22, 77, 68, 69, 103, 66, 25], match f with | 22 => [5] | 77 => [5] | 67 => [115] | 32 => [117] | 25 => [6] | 62 => [68, 38, 66] | 15 => [47, 52] | _ => [], match f with | 15 => false | _ => true⟩
def valE : List AV → Option Val
  | [.val (.int .i64 k), .val (.int .i64 n)] => some ⟨k, n⟩
  | _ => none
def itE (g : Nat) (caps : List AV) : Option (List (List AV)) := match g, caps with
  | 136, [.iptr [.sl xs]] => (match omap valE xs with | some l => some ((refsOf l).map cI) | none => none)
  | _, _ => none
theorem itE_ok : ∀ g caps xs, itE g caps = some xs → IterSpec Try.prog g caps xs := by
  intro g caps xs h
  unfold itE at h
  split at h
  · rename_i xs
    split at h
    · rename_i l hl
      simp only [Option.some.injEq] at h; subst h
      have e : xs = l.map Val.c := by
        rw [omap_eq] at hl
        obtain ⟨m1, m2⟩ := mapM_some hl
        apply List.ext_getElem?
        intro i
        rw [List.getElem?_map]
        rcases Nat.lt_or_ge i xs.length with hi | hi
        · obtain ⟨c, hc, hcc⟩ := m2 i xs[i] (List.getElem?_eq_getElem hi)
          rw [hc, List.getElem?_eq_getElem hi]
          unfold valE at hcc
          split at hcc
          · rename_i k n hn
            simp only [Option.some.injEq] at hcc
            rw [hn, ← hcc]; rfl
          · cases hcc
        · rw [List.getElem?_eq_none hi, List.getElem?_eq_none (by omega)]; rfl
      rw [e]
      exact iter136 l
    · cases h
  · cases h
set_option maxRecDepth 100000 in
theorem sanity15 : PureSpec Try.prog 15 [] (.val (.bool true)) := by
  have h := (envE_ok (P := Try.prog) (hs := hsE) (Hf := HfE) (it := itE) (mm := fun _ _ => none) (L := 1000) (by kernel_rfl) itE_ok (fun _ _ _ h => by cases h) 40).pf 15 [] (.val (.bool true)) (by kernel_rfl)
  rw [envE_P] at h
  exact h
end Go.Proofs
end
