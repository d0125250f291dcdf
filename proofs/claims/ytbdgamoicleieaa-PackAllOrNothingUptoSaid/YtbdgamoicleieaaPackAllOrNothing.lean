/- PackAllOrNothing -/
import Derived.Test.YtbdgamoicleieaaRows
import Derived.Test.YtbdgamoicleieaaPnf
import Derived.ProofKit
import Derived.OpenShut
import Derived.JoinedCond
import Derived.KernelRfl
namespace Go.Proofs.Ytbdgamoicleieaa.packAllOrNothing
open Go.ChangeShapes Go.WideShapes Go.ChangeAt Go.RowKit Go.Vm
theorem own : ownKnob Try.prog.godebug = none := by kernel_rfl
theorem one_le {H : Type} (d : DataW H) : 1 ≤ Rows.uptoBulk d := by
  cases d with
  | lit l => cases l <;> simp only [Rows.uptoBulk] <;> omega
  | nil => simp only [Rows.uptoBulk]; omega
  | ptr d => simp only [Rows.uptoBulk]; omega
  | slice e s => simp only [Rows.uptoBulk]; omega
  | agg p => simp only [Rows.uptoBulk]; omega
  | iface t d => simp only [Rows.uptoBulk]; omega
  | map e => simp only [Rows.uptoBulk]; omega
  | held h => simp only [Rows.uptoBulk]; omega
theorem part_le {H : Type} {d : DataW H} {l : List (DataW H)} (h : d ∈ l) : Rows.uptoBulk d ≤ Rows.uptoBulkAll l := by
  induction l with
  | nil => cases h
  | cons a r ih =>
    simp only [Rows.uptoBulkAll]
    rcases List.mem_cons.1 h with rfl | h
    · omega
    · have := ih h; omega
theorem length_le {H : Type} (l : List (DataW H)) : l.length ≤ Rows.uptoBulkAll l := by
  induction l with
  | nil => exact Nat.le_refl 0
  | cons a r ih => have := one_le a; simp only [List.length_cons, Rows.uptoBulkAll]; omega
theorem bulk {H : Type} : Bulk (Rows.uptoBulk (H := H)) where
  str := fun l => by simp only [Rows.uptoBulk]; omega
  sl := fun es sp => by have := length_le es; simp only [Rows.uptoBulk]; omega
  slm := fun es sp d hd => by have := part_le hd; simp only [Rows.uptoBulk]; omega
  agm := fun ps d hd => by have := part_le hd; simp only [Rows.uptoBulk]; omega
theorem small {H : Type} {ds gs : List (DataW H)} (hk : Rows.uptoSmall H (ds ++ gs) = true) : ∀ d ∈ ds, Rows.uptoBulk d ≤ 1048576 := fun d hd => by
  have h1 : Rows.uptoBulkAll (ds ++ gs) ≤ 1048576 := of_decide_eq_true hk
  exact Nat.le_trans (part_le (List.mem_append_left _ hd)) h1
theorem trods {H : Type} {enc : TypeId × Value → H} {P : Program} {w : World} {base : Nat} {sp : Nat → Bool} {held : Bool} : ∀ {ts : List TypeId} {vs : List Value} {ds : List (DataW H)} {ps : List MemPlace}, DataW.TrodAll enc P w base sp held ts vs ds ps → ds.length = ts.length
  | [], [], [], _, _ => rfl
  | t :: ts, v :: vs, d :: ds, ps, h => by
    obtain ⟨p, q, _, h2, _⟩ := h
    simp only [List.length_cons, trods h2]
  | [], [], _ :: _, _, h => h.elim
  | [], _ :: _, _, _, h => h.elim
  | _ :: _, [], _, _, h => h.elim
  | _ :: _, _ :: _, [], _, h => h.elim
set_option maxRecDepth 100000 in
theorem pure (us : List AV) (h : argsFit Try.prog 1048576 8 Try.f8.params.toList us) : PureSpec Try.prog 8 us (.val (.bool true)) := by
  rw [show Try.f8.params.toList = [22, 22, 61, 26] by kernel_rfl] at h
  match us, h with
  | [b1, b2, b3, b4], h =>
    obtain ⟨h1, h2, h3, h4, -⟩ := h
    have h1 : fitsD Try.prog 1048576 8 22 [b1] := h1
    obtain ⟨y1, m1, e1, g1, k1⟩ := fits_slice (e := 91) (by kernel_rfl) h1
    simp only [List.cons.injEq, and_true] at e1
    obtain ⟨a1, rfl, l1⟩ := fits_list (cells := Form.c) (Q := Form.ok 1048576) (fun cs hcs => fits_Form91 (k1 cs hcs))
    rw [List.length_map] at g1
    have h2 : fitsD Try.prog 1048576 8 22 [b2] := h2
    obtain ⟨y2, m2, e2, g2, k2⟩ := fits_slice (e := 91) (by kernel_rfl) h2
    simp only [List.cons.injEq, and_true] at e2
    obtain ⟨a2, rfl, l2⟩ := fits_list (cells := Form.c) (Q := Form.ok 1048576) (fun cs hcs => fits_Form91 (k2 cs hcs))
    rw [List.length_map] at g2
    have h3 : fitsD Try.prog 1048576 8 61 [b3] := h3
    obtain ⟨y3, m3, e3, g3, k3⟩ := fits_slice (e := 100) (by kernel_rfl) h3
    simp only [List.cons.injEq, and_true] at e3
    obtain ⟨a3, rfl, l3⟩ := fits_list (cells := Rule.c) (Q := Rule.ok 1048576) (fun cs hcs => fits_Rule100 (k3 cs hcs))
    rw [List.length_map] at g3
    obtain ⟨c4, e4, h4⟩ : ∃ c, b4 = .agg c ∧ fitsD Try.prog 1048576 8 26 c := h4
    obtain ⟨a4, rfl, k4⟩ := fits_Graph26 h4
    obtain ⟨n, hn⟩ := packAllOrNothingplain (⟨g1, l1⟩) (⟨g2, l2⟩) (⟨g3, l3⟩) k4
    have := p_f8 hn
    rw [e1]
    rw [e2]
    rw [e3]
    rw [e4]
    exact this
set_option maxRecDepth 100000 in
theorem contract (H : Type) (enc : TypeId × Value → H) (W : World) (base : Nat) (args : Array Value) (ds gs : List (DataW H)) (before : List MemPlace)
    (hval : ∀ (j : Nat) t v, Try.f8.params[j]? = some t → args[j]? = some v → Value.okWide Try.prog W .any base t v)
    (hW : DataW.Whole enc Try.prog Try.f8.params.toList Rows.packAllOrNothingSpec.vars false W args.toList ds gs before) (hk : Rows.uptoSmall H (ds ++ gs) = true) :
    Calls Try.prog 8 args W fun e W' => ∃ v, e = .returned v ∧ Rows.packAllOrNothingSpec.post enc Try.prog Try.f8 false true false false W args v W' := by
  have hlen : ds.length = 4 := by
    obtain ⟨p, q, hA, _⟩ := id hW
    rw [trods hA]; kernel_rfl
  obtain ⟨d1, d2, d3, d4, rfl⟩ : ∃ d1 d2 d3 d4, ds = [d1, d2, d3, d4] := by
    match ds, hlen with
    | [d1, d2, d3, d4], _ => exact ⟨d1, d2, d3, d4, rfl⟩
  obtain ⟨c, hc⟩ : ∃ c, Try.f8.body = some c := ⟨_, rfl⟩
  exact law_contract (β := Rows.uptoBulk) (B := 1048576) bulk (n := 8) (tb := 4) Try.func8 (by kernel_rfl) hc (fun t ht => List.all_eq_true.1 (show (Try.f8.params.toList.all fun t => layB Try.prog 8 t) = true by kernel_rfl) t ht) pure
    (by kernel_rfl) (fun t ht => by
      have := List.all_eq_true.1 (show (Try.f8.params.toList.all fun t => Try.prog.readableRec t && Nat.blt t Try.prog.types.size) = true by kernel_rfl) t ht
      simp only [Bool.and_eq_true, Nat.blt_eq] at this
      exact this) (by kernel_rfl) Try.underlying4 rfl ⟨rfl, rfl, rfl⟩ hval hW (small hk)
set_option maxRecDepth 100000 in
theorem lifted (os : Os) (started : os.Started) (H : Type) (enc : TypeId × Value → H) (F : Stop.Interp) :
    ReturnsInHanded {} @Try.checked os 8 .any ((Rows.OpenSpec.upto Rows.packAllOrNothingSpec).pre6 enc Try.prog Try.f8 Rows.packAllOrNothingUptoRow.domain false) (((Rows.OpenSpec.upto Rows.packAllOrNothingSpec).at F).post enc Try.prog Try.f8 false true false false) := by
  refine returnsInHanded_of_cond (C := Try.checked) (s := Rows.OpenSpec.upto Rows.packAllOrNothingSpec) (k := Rows.uptoSmall) rfl own started (by kernel_rfl) Try.func8
    (OpenSpec.witness (enc := enc) (C := Try.checked) (s := Rows.OpenSpec.upto Rows.packAllOrNothingSpec) (k := Rows.uptoSmall) rfl false ⟨#[], #[.slice none 0 0, .slice none 0 0, .slice none 0 0, .agg #[.slice none 0 0, .slice none 0 0]], []⟩ 8 (by kernel_rfl) (by kernel_rfl) (by kernel_rfl)
      (x := ([.nil, .nil, .nil, .agg [.nil, .nil]], [], [])) (by kernel_rfl) rfl (by kernel_rfl)) ?_
  intro W base args ds gs before hval hW _ hk _
  exact contract H enc W base args ds gs before hval hW hk
theorem proved : Rows.PackAllOrNothingUptoSaid :=
  OpenClaim.holds_of_cond 8 Try.f8 rfl rfl rfl rfl rfl rfl rfl ⟨rfl, rfl, rfl, rfl, rfl⟩ rfl rfl rfl rfl rfl (by kernel_rfl) Try.func8 (by kernel_rfl)
    (of_decide_eq_true (by kernel_rfl)) (by unfold Func.isWrapper; first | (rw [if_pos (by decide +kernel)]; kernel_rfl) | (rw [if_neg (by decide +kernel)]; exact ⟨rfl, rfl⟩))
    (fun os started H enc _ F => lifted os started H enc F)
end Go.Proofs.Ytbdgamoicleieaa.packAllOrNothing
namespace Go.Proofs.Ytbdgamoicleieaa
theorem packAllOrNothing_holds : Rows.PackAllOrNothingUptoSaid := packAllOrNothing.proved
end Go.Proofs.Ytbdgamoicleieaa

