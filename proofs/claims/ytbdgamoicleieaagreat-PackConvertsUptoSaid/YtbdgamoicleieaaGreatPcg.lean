/- Texts of this claim, one behind the other. -/
import Derived.Test.YtbdgamoicleieaaGreatPcf
import Derived.ChangeFn
import Derived.Carry
import Derived.ChangeSame
import Derived.RowKit
import Derived.OpenShut
import Derived.ChangeShapes
import Derived.KernelRfl
set_option linter.unusedVariables false
set_option linter.unusedSimpArgs false
set_option linter.unnecessarySimpa false
section
set_option linter.unusedVariables false
set_option linter.unusedSimpArgs false
namespace Go.Vm
structure Bulk {H : Type} (β : DataW H → Nat) : Prop where
  str : ∀ l, l.length ≤ β (.lit (.string l))
  sl : ∀ es sp, es.length ≤ β (.slice es sp)
  slm : ∀ es sp d, d ∈ es → β d ≤ β (.slice es sp)
  agm : ∀ ps d, d ∈ ps → β d ≤ β (.agg ps)
section
variable {H : Type} {enc : TypeId × Value → H} {P : Program} {w : World} {β : DataW H → Nat} {B : Nat}
def contF (P : Program) : Nat → List Field → Bool
  | _, [] => true
  | off, f :: fs => f.offset == off && contF P (off + P.cellsOf f.type) fs
def layB (P : Program) : Nat → TypeId → Bool
  | 0, _ => false
  | n + 1, t => match P.underlying t with
    | some .bool | some (.int _) | some .string => P.cellsOf t == 1
    | some (.slice e) => P.cellsOf t == 1 && layB P n e
    | some (.struct fs) => contF P 0 fs.toList && (fs.toList.map fun f => P.cellsOf f.type).sum == P.cellsOf t && fs.toList.all fun f => layB P n f.type
    | _ => false
def fitsD (P : Program) (B : Nat) : Nat → TypeId → List AV → Prop
  | 0, _, _ => False
  | n + 1, t, az => match P.underlying t with
    | some .bool => ∃ b, az = [.val (.bool b)]
    | some (.int k) => ∃ m, az = [.val (.int k m)] ∧ (Lit.int k m).wf = true
    | some .string => ∃ s : ByteArray, az = [.val (.string s)] ∧ s.size ≤ B
    | some (.slice e) => ∃ xs, az = [.sl xs] ∧ xs.length ≤ B ∧ ∀ cs ∈ xs, fitsD P B n e cs
    | some (.struct fs) => ∃ parts : List (List AV), az = parts.flatten ∧ parts.length = fs.toList.length ∧ ∀ (i : Nat) f p, fs.toList[i]? = some f → parts[i]? = some p → fitsD P B n f.type p
    | _ => False
def Cells (w : World) (az : List AV) (cs : List Value) : Prop := az.length = cs.length ∧ ∀ (i : Nat) a u, az[i]? = some a → cs[i]? = some u → RepP w (fun _ b => b < w.heap.size) a u
theorem Cells.one {a : AV} {u : Value} (h : RepP w (fun _ b => b < w.heap.size) a u) : Cells w [a] [u] := ⟨rfl, fun i b v hb hv => by
  cases i with
  | zero => simp at hb hv; subst hb hv; exact h
  | succ i => simp at hb⟩
theorem Cells.append {az bs : List AV} {cs ds : List Value} (h : Cells w az cs) (k : Cells w bs ds) : Cells w (az ++ bs) (cs ++ ds) := ⟨by simp [h.1, k.1], fun i a u ha hu => by
  rw [List.getElem?_append] at ha hu
  rw [← h.1] at hu
  split at ha
  · rename_i hlt; rw [if_pos hlt] at hu; exact h.2 i a u ha hu
  · rename_i hlt; rw [if_neg hlt] at hu; exact k.2 _ a u ha hu⟩
theorem mapM_cons_some {α β : Type} {f : α → Option β} {x : α} {l : List α} {r : List β} (h : (x :: l).mapM f = some r) : ∃ b r', f x = some b ∧ l.mapM f = some r' ∧ r = b :: r' := by
  simp only [List.mapM_cons, Option.bind_eq_bind, Option.bind_eq_some_iff, Option.pure_def, Option.some.injEq] at h
  obtain ⟨b, h1, r', h2, h3⟩ := h
  exact ⟨b, r', h1, h2, h3.symm⟩
theorem fields_cells {n : Nat} {spare : Nat → Bool} {held : Bool} {fuel : Nat} {base : Nat}
    (ih : ∀ (t : TypeId) (cs : List Value) (d : DataW H) (ps : List MemPlace), layB P n t = true → DataW.trod enc P w base spare held fuel t cs = some (d, ps) → β d ≤ B → ∃ az, Cells w az cs ∧ fitsD P B n t az) :
    ∀ (fs : List Field) (off : Nat) (cs : List Value) (xs : List (DataW H × List MemPlace)), contF P off fs = true → (fs.all fun f => layB P n f.type) = true → off + (fs.map fun f => P.cellsOf f.type).sum = cs.length →
      (fs.mapM fun f => DataW.trod enc P w base spare held fuel f.type ((cs.drop f.offset).take (P.cellsOf f.type))) = some xs → (∀ x ∈ xs, β x.1 ≤ B) →
      ∃ parts : List (List AV), Cells w parts.flatten (cs.drop off) ∧ parts.length = fs.length ∧ ∀ (i : Nat) f p, fs[i]? = some f → parts[i]? = some p → fitsD P B n f.type p
  | [], off, cs, xs, _, _, hl, h, _ => by
    simp at hl
    subst hl
    exact ⟨[], ⟨by simp, fun i a u ha => by simp at ha⟩, rfl, fun i f p hf => by simp at hf⟩
  | f :: fs, off, cs, xs, hc, hy, hl, h, hx => by
    obtain ⟨b, r', h1, h2, rfl⟩ := mapM_cons_some h
    simp only [contF, Bool.and_eq_true, beq_iff_eq] at hc
    simp only [List.all_cons, Bool.and_eq_true] at hy
    simp only [List.map_cons, List.sum_cons] at hl
    obtain ⟨az, ha, hfa⟩ := ih f.type _ b.1 b.2 hy.1 h1 (hx b (by simp))
    obtain ⟨parts, hp, hpl, hpf⟩ := fields_cells ih fs (off + P.cellsOf f.type) cs r' hc.2 hy.2 (by omega) h2 (fun x h => hx x (by simp [h]))
    refine ⟨az :: parts, ?_, by simp [hpl], fun i g p hg hp' => ?_⟩
    · rw [hc.1] at ha
      have e : cs.drop off = (cs.drop off).take (P.cellsOf f.type) ++ cs.drop (off + P.cellsOf f.type) := by
        rw [← List.drop_drop, List.take_append_drop]
      rw [e, List.flatten_cons]
      exact ha.append hp
    · cases i with
      | zero => simp at hg hp'; subst hg hp'; exact hfa
      | succ i => simp at hg hp'; exact hpf i g p hg hp'
theorem cell_in {a : Addr} {u : Value} (h : w.cell? a = some u) : a.block < w.heap.size := by
  unfold World.cell? at h
  split at h
  · rename_i hb; exact (Array.getElem?_eq_some_iff.1 hb).1
  · cases h
theorem rows_cells {n : Nat} {e : TypeId} {base : Nat} {a : Addr} {f : List Value → Option (DataW H × List MemPlace)}
    (ih : ∀ (cs : List Value) (d : DataW H) (ps : List MemPlace), f cs = some (d, ps) → β d ≤ B → ∃ az, Cells w az cs ∧ fitsD P B n e az) :
    ∀ (len : Nat) (elems : List (DataW H × List MemPlace)), ((List.range len).mapM fun i => (w.cells? base (a.add (i * P.cellsOf e)) (P.cellsOf e)).bind f) = some elems → (∀ x ∈ elems, β x.1 ≤ B) →
      ∃ xs : List (List AV), xs.length = len ∧ ∀ (j : Nat) cs, xs[j]? = some cs → cs.length = P.cellsOf e ∧ fitsD P B n e cs ∧ ∀ (i : Nat) b, cs[i]? = some b → ∃ u, w.cell? (a.add (j * P.cellsOf e + i)) = some u ∧ RepP w (fun _ b => b < w.heap.size) b u := by
  intro len elems hel hB
  obtain ⟨m1, m2⟩ := mapM_some hel
  have row : ∀ j, j < len → ∃ cs : List AV, cs.length = P.cellsOf e ∧ fitsD P B n e cs ∧ ∀ (i : Nat) b, cs[i]? = some b → ∃ u, w.cell? (a.add (j * P.cellsOf e + i)) = some u ∧ RepP w (fun _ b => b < w.heap.size) b u := fun j hj => by
    obtain ⟨r, hrj, hr⟩ := m2 j j (List.getElem?_range hj)
    have hrB := hB r (List.mem_of_getElem? hrj)
    simp only [Option.bind_eq_some_iff] at hr
    obtain ⟨ecs, h1, h2⟩ := hr
    obtain ⟨az, hc, hf⟩ := ih ecs r.1 r.2 h2 hrB
    unfold World.cells? at h1
    split at h1
    · obtain ⟨k1, k2⟩ := mapM_some h1
      simp only [List.length_range] at k1
      refine ⟨az, by rw [hc.1, k1], hf, fun i b hb => ?_⟩
      have hi : i < P.cellsOf e := by rw [← k1, ← hc.1]; exact (List.getElem?_eq_some_iff.1 hb).1
      obtain ⟨u, hu1, hu2⟩ := k2 i i (List.getElem?_range hi)
      rw [add_add] at hu2
      exact ⟨u, hu2, hc.2 i b u hb hu1⟩
    · cases h1
  refine ⟨(List.range len).map (fun j => if h : j < len then Classical.choose (row j h) else []), by simp, fun j cs hj => ?_⟩
  rw [List.getElem?_map] at hj
  have hlt : j < len := by
    by_cases h : j < len
    · exact h
    · rw [List.getElem?_eq_none (by simpa using Nat.le_of_not_lt h)] at hj; cases hj
  rw [List.getElem?_range hlt] at hj
  simp only [Option.map_some, Option.some.injEq, dif_pos hlt] at hj
  subst hj
  exact Classical.choose_spec (row j hlt)
theorem trod_cells (hβ : Bulk β) {spare : Nat → Bool} {held : Bool} {base : Nat} : ∀ (n fuel : Nat) (t : TypeId) (cs : List Value) (d : DataW H) (ps : List MemPlace), layB P n t = true → DataW.trod enc P w base spare held fuel t cs = some (d, ps) → β d ≤ B → ∃ az, Cells w az cs ∧ fitsD P B n t az
  | 0, fuel, t, cs, d, ps, hl, h, _ => by simp [layB] at hl
  | n + 1, 0, t, cs, d, ps, hl, h, _ => by simp [DataW.trod] at h
  | n + 1, fuel + 1, t, cs, d, ps, hl, h, hd => by
    unfold layB at hl
    unfold DataW.trod at h
    unfold fitsD
    split at hl
    · rename_i hu
      simp only [hu] at h ⊢
      rcases cs with _ | ⟨v, _ | ⟨v2, r⟩⟩
      · simp at h
      · cases v <;> simp at h
        exact ⟨_, Cells.one (.val _), _, rfl⟩
      · simp at h
    · rename_i k hu
      simp only [hu] at h ⊢
      rcases cs with _ | ⟨v, _ | ⟨v2, r⟩⟩
      · simp at h
      · cases v <;> simp at h
        obtain ⟨⟨rfl, h1⟩, _⟩ := h
        exact ⟨_, Cells.one (.val _), _, rfl, h1⟩
      · simp at h
    · rename_i hu
      simp only [hu] at h ⊢
      rcases cs with _ | ⟨v, _ | ⟨v2, r⟩⟩
      · simp at h
      · cases v <;> simp at h
        obtain ⟨h0, rfl, _⟩ := h
        refine ⟨_, Cells.one (.val _), _, rfl, ?_⟩
        have := hβ.str (ByteArray.data ‹ByteArray›).toList
        simp only [Array.length_toList] at this
        exact Nat.le_trans this hd
      · simp at h
    · rename_i e hu
      simp only [Bool.and_eq_true, beq_iff_eq] at hl
      simp only [hu] at h ⊢
      rcases cs with _ | ⟨v, _ | ⟨v2, r⟩⟩
      · simp at h
      · cases v <;> try (simp at h; done)
        rename_i A len cap
        cases A with
        | none =>
          refine ⟨[.sl []], Cells.one ?_, [], rfl, Nat.zero_le _, fun cs hcs => by cases hcs⟩
          have : len = 0 ∧ cap = 0 := by
            cases len <;> cases cap <;> simp at h ⊢
          obtain ⟨rfl, rfl⟩ := this
          exact .sl [] none 0 0 (fun _ _ => undef) (Nat.le_refl _) (Nat.zero_le _) (fun _ => rfl) (fun j cs hj => by simp at hj) (fun j cs i a hj => by simp at hj) (fun j cs i a hj => by simp at hj)
        | some a =>
          simp only at h
          split at h
          · rename_i hcond
            simp only [Option.bind_eq_some_iff, Option.map_eq_some_iff] at h
            obtain ⟨elems, hel, rest, _, hdd⟩ := h
            simp only [Prod.mk.injEq] at hdd
            obtain ⟨rfl, _⟩ := hdd
            have hlen := Nat.le_trans (hβ.sl _ _) hd
            have hme : ∀ x ∈ elems, β x.1 ≤ B := fun x hx => Nat.le_trans (hβ.slm _ _ x.1 (List.mem_map_of_mem hx)) hd
            have hell := (mapM_some hel).1
            simp only [List.length_range] at hell
            simp only [List.length_map, hell] at hlen
            obtain ⟨xs, hxl, hx⟩ := rows_cells (w := w) (a := a) (fun cs d ps hd hb => trod_cells hβ n fuel e cs d ps hl.2 hd hb) len elems hel hme
            refine ⟨[.sl xs], Cells.one ?_, xs, rfl, by omega, fun cs hcs => ?_⟩
            · rw [← hxl]
              refine .sl xs (some a) cap (P.cellsOf e) (fun j i => (w.cell? (a.add (j * P.cellsOf e + i))).getD undef) (by omega) hcond.2.2 (fun e => by cases e) (fun j cs hj => (hx j cs hj).1) (fun j cs i b hj hi => ?_) (fun j cs i b hj hi => ?_)
              · obtain ⟨u, hu1, hu2⟩ := (hx j cs hj).2.2 i b hi
                exact ⟨a, rfl, by have := cell_in hu1; rwa [add_block] at this, by rw [hu1]; rfl⟩
              · obtain ⟨u, hu1, hu2⟩ := (hx j cs hj).2.2 i b hi
                rw [hu1]; exact hu2
            · obtain ⟨j, hj, rfl⟩ := List.getElem_of_mem hcs
              exact (hx j _ (List.getElem?_eq_getElem hj)).2.1
          · cases h
      · simp at h
    · rename_i fs hu
      simp only [Bool.and_eq_true, beq_iff_eq] at hl
      simp only [hu] at h ⊢
      have h' : (if cs.length = P.cellsOf t then (fs.toList.mapM fun f => DataW.trod enc P w base spare held fuel f.type ((cs.drop f.offset).take (P.cellsOf f.type))).map fun xs => (DataW.agg (xs.map (·.1)), xs.flatMap (·.2)) else none) = some (d, ps) := h
      split at h'
      · rename_i hlen
        simp only [Option.map_eq_some_iff] at h'
        obtain ⟨xs, hxs, hdd⟩ := h'
        simp only [Prod.mk.injEq] at hdd
        obtain ⟨rfl, _⟩ := hdd
        have hme : ∀ x ∈ xs, β x.1 ≤ B := fun x hx => Nat.le_trans (hβ.agm _ x.1 (List.mem_map_of_mem hx)) hd
        obtain ⟨parts, k1, k2, k3⟩ := fields_cells (fun t cs d ps hy hd hb => trod_cells hβ n fuel t cs d ps hy hd hb) fs.toList 0 cs xs hl.1.1 hl.2 (by omega) hxs hme
        exact ⟨_, by simpa using k1, parts, rfl, k2, k3⟩
      · cases h'
    · cases hl
end
end Go.Vm
end
section
set_option linter.unusedVariables false
set_option linter.unusedSimpArgs false
namespace Go.Vm
open Go.RowKit Go.ChangeShapes Go
section
variable {H : Type} {enc : TypeId × Value → H} {P : Program} {W W' : World}
theorem trodAll_stays (hl : laidOutB P = true) {sp : Nat → Bool} : ∀ (ts : List TypeId) (vs : List Value) (ds : List (DataW H)) (ps : List MemPlace), (∀ t ∈ ts, P.readableRec t = true ∧ t < P.types.size) →
    DataW.TrodAll enc P W 0 (fun _ => true) true ts vs ds ps → Below W.heap.size W W' → (∀ x ∈ ps, x.block < W.heap.size) → (∀ x ∈ ps, sp x.block = true) → DataW.TrodAll enc P W' 0 sp true ts vs ds ps
  | [], [], [], ps, _, h, _, _, _ => h
  | t :: ts, v :: vs, d :: ds, ps, ht, h, hb, hlt, hsp => by
    obtain ⟨p, q, h1, h2, rfl⟩ := h
    refine ⟨p, q, WideElems.Trod_stays hl (ht t (by simp)).1 (ht t (by simp)).2 h1 (fun x hx => hb.same (hlt x (by simp [hx]))) (fun x hx => hsp x (by simp [hx])),
      trodAll_stays hl ts vs ds q (fun t' ht' => ht t' (by simp [ht'])) h2 hb (fun x hx => hlt x (by simp [hx])) (fun x hx => hsp x (by simp [hx])), rfl⟩
  | [], [], _ :: _, _, _, h, _, _, _ => h.elim
  | [], _ :: _, _, _, _, h, _, _, _ => h.elim
  | _ :: _, [], _, _, _, h, _, _, _ => h.elim
  | _ :: _, _ :: _, [], _, _, h, _, _, _ => h.elim
theorem law_post {f : Func} {s : ChangeSpec} {apart fresh handsOn again : Bool} {args : Array Value} {ds gs : List (DataW H)} {before : List MemPlace} {tb : TypeId} (hl : laidOutB P = true) (hparams : ∀ t ∈ f.params.toList, P.readableRec t = true ∧ t < P.types.size)
    (hrt : f.resultTypes = #[tb]) (hb : P.underlying tb = some .bool) (hvars : s.vars = []) (hfn : (s.fn H (ds ++ [])).results = [.lit (.bool true)] ∧ (s.fn H (ds ++ [])).args = ds ∧ (s.fn H (ds ++ [])).vars = [])
    (hW : DataW.Whole enc P f.params.toList s.vars apart W args.toList ds gs before) (hbel : Below W.heap.size W W') : s.post enc P f apart fresh handsOn again W args (.bool true) W' := by
  have hW' := hW
  obtain ⟨p, q, hA, hV, rfl, hfz, hnd⟩ := hW
  rw [hvars] at hV
  obtain ⟨rfl, rfl⟩ := trodVars_none hV
  have hlt : ∀ x ∈ p ++ [], x.block < W.heap.size := fun x hx => hW'.lt x hx
  simp only [List.append_nil] at hW' hlt hfn
  have hold : ∀ x ∈ p, (fun b => decide (b < W.heap.size)) x.block = true := fun x hx => by simpa using hlt x hx
  have hresB : ∀ (b : Nat) (sp : Nat → Bool) (hd : Bool), DataW.TrodAll enc P W' b sp hd f.resultTypes.toList ((Value.bool true).resultList f.resultTypes.size) (s.fn H ds).results [] := fun b sp hd => by
    rw [hfn.1, hrt]
    exact trodAll_cons_mk (shut_bool hb _) trodAll_mk0
  have hresA : ∀ sp : Nat → Bool, (∀ x ∈ p, sp x.block = true) → DataW.TrodAll enc P W' 0 sp true f.params.toList args.toList (s.fn H ds).args p := fun sp hsp => by
    rw [hfn.2.1]
    exact trodAll_stays hl _ _ _ _ hparams hA hbel hlt hsp
  have hvarsB : ∀ sp : Nat → Bool, DataW.TrodVars enc P W' sp s.vars (s.fn H ds).vars [] := fun sp => by
    rw [hfn.2.2, hvars]; rfl
  refine ⟨ds, [], p, [], p, [], hW', ?_, ?_, ?_, World.keptBut_mono (fun x hx => ⟨hx, ?_⟩) (hbel.frame _), fun _ => ?_⟩
  · simpa using hresB _ _ _
  · simpa using hresA _ hold
  · simpa using hvarsB _
  · simp [hx]
  · refine ⟨ok_one hrt rfl (okWide_bool_mk hb _), _, _, ([] ++ p) ++ [], ⟨[] ++ p, [], trodAll_append (hresA _ (fun _ _ => rfl)) (hresB _ _ _), by simpa using hvarsB _, rfl, ?_, ?_⟩, ?_⟩
    · intro b off hp
      have hp' : MemPlace.cell b off ∈ p := by simpa using hp
      have hb' : b < W.heap.size := hlt _ hp'
      rw [hbel.frozen hb']
      exact hfz b off (by simpa using hp')
    · intro ha
      have := hnd ha
      simpa using this
    · intro x hx _
      simpa using hx
end
end Go.Vm
end
section
set_option linter.unusedVariables false
set_option linter.unusedSimpArgs false
namespace Go.Vm
open Go.RowKit Go.ChangeShapes
section
variable {H : Type} {enc : TypeId × Value → H} {P : Program} {W W' : World} {β : DataW H → Nat} {B : Nat}
def argFits (P : Program) (B n : Nat) (t : TypeId) (a : AV) : Prop :=
  match P.underlying t with
  | some (.struct _) => ∃ az, a = .agg az ∧ fitsD P B n t az
  | _ => fitsD P B n t [a]
theorem arg_rep (hβ : Bulk β) {n base : Nat} {t : TypeId} {v : Value} {d : DataW H} {p : List MemPlace} (hl : layB P n t = true) (hok : Value.okWide P W .any base t v) (h : DataW.Trod enc P W 0 (fun _ => true) true t v d p) (hd : β d ≤ B) :
    ∃ a, argFits P B n t a ∧ RepP W (fun _ b => b < W.heap.size) a v := by
  obtain ⟨fuel, hf⟩ := h
  obtain ⟨az, hc, hfit⟩ := trod_cells hβ n fuel t v.cells.toList d p hl hf hd
  cases n with
  | zero => simp [layB] at hl
  | succ n =>
    have single : v.cells = #[v] → fitsD P B (n + 1) t az → (∀ x, az = [x] → argFits P B (n + 1) t x) → (∃ x, az = [x]) → ∃ a, argFits P B (n + 1) t a ∧ RepP W (fun _ b => b < W.heap.size) a v := fun hv hfit ha ⟨x, hx⟩ => by
      subst hx
      rw [hv] at hc
      exact ⟨x, ha x rfl, hc.2 0 x v rfl rfl⟩
    unfold layB at hl
    split at hl
    · rename_i hu
      have hv : v.cells = #[v] := by cases v <;> first | rfl | simp [Value.okWide, hu, Cell.okWide, Cell.ok] at hok
      have hfit' := hfit
      unfold fitsD at hfit'
      simp only [hu] at hfit'
      obtain ⟨b, rfl⟩ := hfit'
      exact single hv hfit (fun x hx => by unfold argFits; simp only [hu]; rw [← hx]; exact hfit) ⟨_, rfl⟩
    · rename_i k hu
      have hv : v.cells = #[v] := by cases v <;> first | rfl | simp [Value.okWide, hu, Cell.okWide, Cell.ok] at hok
      have hfit' := hfit
      unfold fitsD at hfit'
      simp only [hu] at hfit'
      obtain ⟨b, rfl, _⟩ := hfit'
      exact single hv hfit (fun x hx => by unfold argFits; simp only [hu]; rw [← hx]; exact hfit) ⟨_, rfl⟩
    · rename_i hu
      have hv : v.cells = #[v] := by cases v <;> first | rfl | simp [Value.okWide, hu, Cell.okWide, Cell.ok] at hok
      have hfit' := hfit
      unfold fitsD at hfit'
      simp only [hu] at hfit'
      obtain ⟨b, rfl, _⟩ := hfit'
      exact single hv hfit (fun x hx => by unfold argFits; simp only [hu]; rw [← hx]; exact hfit) ⟨_, rfl⟩
    · rename_i e hu
      have hv : v.cells = #[v] := by cases v <;> first | rfl | simp [Value.okWide, hu, Cell.okWide, Cell.ok] at hok
      have hfit' := hfit
      unfold fitsD at hfit'
      simp only [hu] at hfit'
      obtain ⟨b, rfl, _⟩ := hfit'
      exact single hv hfit (fun x hx => by unfold argFits; simp only [hu]; rw [← hx]; exact hfit) ⟨_, rfl⟩
    · rename_i fs hu
      have hv : ∃ cs, v = .agg cs := by
        simp only [Value.okWide, hu] at hok
        obtain ⟨cs, h1, _⟩ := hok
        exact ⟨cs, h1⟩
      obtain ⟨cs, rfl⟩ := hv
      refine ⟨.agg az, by unfold argFits; simp only [hu]; exact ⟨az, rfl, hfit⟩, ?_⟩
      have := RepP.agg (w := W) (I := fun _ b => b < W.heap.size) az cs.toList (by simpa [Value.cells] using hc.1) (fun i a u ha hu => hc.2 i a u ha (by simpa [Value.cells] using hu))
      simpa using this
    · cases hl
def argsFit (P : Program) (B n : Nat) : List TypeId → List AV → Prop
  | [], [] => True
  | t :: ts, a :: az => argFits P B n t a ∧ argsFit P B n ts az
  | _, _ => False
theorem args_rep (hβ : Bulk β) {n base : Nat} : ∀ (ts : List TypeId) (vs : List Value) (ds : List (DataW H)) (ps : List MemPlace), (∀ t ∈ ts, layB P n t = true) → (∀ (j : Nat) t v, ts[j]? = some t → vs[j]? = some v → Value.okWide P W .any base t v) →
    DataW.TrodAll enc P W 0 (fun _ => true) true ts vs ds ps → (∀ d ∈ ds, β d ≤ B) → ∃ az, argsFit P B n ts az ∧ vs.length = az.length ∧ ∀ (i : Nat) a v, az[i]? = some a → vs[i]? = some v → RepP W (fun _ b => b < W.heap.size) a v
  | [], [], [], ps, _, _, h, _ => ⟨[], trivial, rfl, fun i a v ha => by simp at ha⟩
  | t :: ts, v :: vs, d :: ds, ps, hl, hok, h, hb => by
    obtain ⟨p, q, h1, h2, rfl⟩ := h
    obtain ⟨a, ha, hr⟩ := arg_rep hβ (hl t (by simp)) (hok 0 t v rfl rfl) h1 (hb d (by simp))
    obtain ⟨az, k1, k2, k3⟩ := args_rep hβ ts vs ds q (fun t' ht => hl t' (by simp [ht])) (fun j t' v' ht hv => hok (j + 1) t' v' (by simpa using ht) (by simpa using hv)) h2 (fun d hd => hb d (by simp [hd]))
    refine ⟨a :: az, ⟨ha, k1⟩, by simp [k2], fun i b u hb hu => ?_⟩
    cases i with
    | zero => simp at hb hu; subst hb hu; exact hr
    | succ i => simp at hb hu; exact k3 i b u hb hu
  | [], [], _ :: _, _, _, _, h, _ => h.elim
  | [], _ :: _, _, _, _, _, h, _ => h.elim
  | _ :: _, [], _, _, _, _, h, _ => h.elim
  | _ :: _, _ :: _, [], _, _, _, h, _ => h.elim
theorem law_contract (hβ : Bulk β) {f : Nat} {fn : Func} {c : Code} {s : ChangeSpec} {apart fresh handsOn again : Bool} {args : Array Value} {ds gs : List (DataW H)} {before : List MemPlace} {tb n base : Nat}
    (hf : P.funcs[f]? = some fn) (hn : (fn.name == "runtime.NumGoroutine") = false) (hbody : fn.body = some c)
    (hlay : ∀ t ∈ fn.params.toList, layB P n t = true) (hP : ∀ az, argsFit P B n fn.params.toList az → PureSpec P f az (.val (.bool true)))
    (hl : laidOutB P = true) (hparams : ∀ t ∈ fn.params.toList, P.readableRec t = true ∧ t < P.types.size) (hrt : fn.resultTypes = #[tb]) (hb : P.underlying tb = some .bool) (hvars : s.vars = [])
    (hfn : (s.fn H (ds ++ [])).results = [.lit (.bool true)] ∧ (s.fn H (ds ++ [])).args = ds ∧ (s.fn H (ds ++ [])).vars = [])
    (hval : ∀ (j : Nat) t v, fn.params[j]? = some t → args[j]? = some v → Value.okWide P W .any base t v)
    (hW : DataW.Whole enc P fn.params.toList s.vars apart W args.toList ds gs before) (hds : ∀ d ∈ ds, β d ≤ B) : Calls P f args W fun e W' => ∃ v, e = .returned v ∧ s.post enc P fn apart fresh handsOn again W args v W' := by
  obtain ⟨p, q, hA, _⟩ := id hW
  obtain ⟨az, k1, k2, k3⟩ := args_rep hβ (base := base) fn.params.toList args.toList ds p hlay (fun j t v ht hv => hval j t v (by simpa using ht) (by simpa using hv)) hA hds
  have hc := hP az k1 W (fun _ _ => True) args.toList k2 (fun i a v ha hv => (k3 i a v ha hv).mono (fun _ b hb => ⟨⟨trivial, hb⟩, rfl⟩))
  have hr : (callFunc f args).run P W = .ok (.enter f args) W := by
    have hn' : ¬ fn.name = "runtime.NumGoroutine" := by simpa using hn
    simp [callFunc, hf, hn', hbody]
  simp only [Array.toArray_toList] at hc
  unfold CallsX at hc
  rw [hr] at hc
  refine Calls.mono hc (fun e W' h => ?_)
  obtain ⟨v, rfl, h1, h2⟩ := h
  have hv : v = .bool true := by cases h1; rfl
  subst hv
  exact ⟨_, rfl, law_post hl hparams hrt hb hvars hfn hW h2⟩
end
end Go.Vm
end
section
set_option linter.unusedVariables false
set_option linter.unusedSimpArgs false
namespace Go.Vm
section
variable {P : Program} {B n : Nat} {t : TypeId} {az : List AV}
theorem fits_int {k : IntKind} (hu : P.underlying t = some (.int k)) (h : fitsD P B n t az) : ∃ m, az = [.val (.int k m)] ∧ (Lit.int k m).wf = true := by
  cases n with
  | zero => exact h.elim
  | succ n => unfold fitsD at h; simp only [hu] at h; exact h
theorem fits_str (hu : P.underlying t = some .string) (h : fitsD P B n t az) : ∃ s : ByteArray, az = [.val (.string s)] ∧ s.size ≤ B := by
  cases n with
  | zero => exact h.elim
  | succ n => unfold fitsD at h; simp only [hu] at h; exact h
theorem fits_slice {e : TypeId} (hu : P.underlying t = some (.slice e)) (h : fitsD P B n t az) : ∃ xs m, az = [.sl xs] ∧ xs.length ≤ B ∧ ∀ cs ∈ xs, fitsD P B m e cs := by
  cases n with
  | zero => exact h.elim
  | succ n => unfold fitsD at h; simp only [hu] at h; obtain ⟨xs, h1, h2, h3⟩ := h; exact ⟨xs, n, h1, h2, h3⟩
theorem fits_struct {fs : Array Field} (hu : P.underlying t = some (.struct fs)) (h : fitsD P B n t az) :
    ∃ (parts : List (List AV)) (m : Nat), az = parts.flatten ∧ parts.length = fs.toList.length ∧ ∀ (i : Nat) f p, fs.toList[i]? = some f → parts[i]? = some p → fitsD P B m f.type p := by
  cases n with
  | zero => exact h.elim
  | succ n => unfold fitsD at h; simp only [hu] at h; obtain ⟨parts, h1, h2, h3⟩ := h; exact ⟨parts, n, h1, h2, h3⟩
theorem fits_types {ts : List TypeId} (h : fitsD P B n t az) (hu : P.underlying t = some (.struct (P.fieldsOf t))) (hm : (P.fieldsOf t).toList.map (·.type) = ts) :
    ∃ (parts : List (List AV)) (m : Nat), az = parts.flatten ∧ parts.length = ts.length ∧ ∀ (i : Nat) u p, ts[i]? = some u → parts[i]? = some p → fitsD P B m u p := by
  obtain ⟨parts, m, h1, h2, h3⟩ := fits_struct hu h
  subst hm
  refine ⟨parts, m, h1, by simpa using h2, fun i u p hu hp => ?_⟩
  rw [List.getElem?_map] at hu
  obtain ⟨f, hf, rfl⟩ := Option.map_eq_some_iff.1 hu
  exact h3 i f p hf hp
theorem fits_two (t1 t2 : TypeId) (h : fitsD P B n t az) (hu : P.underlying t = some (.struct (P.fieldsOf t)) := by kernel_rfl) (hm : (P.fieldsOf t).toList.map (·.type) = [t1, t2] := by kernel_rfl) :
    ∃ p q m, az = p ++ q ∧ fitsD P B m t1 p ∧ fitsD P B m t2 q := by
  obtain ⟨parts, m, h1, h2, h3⟩ := fits_types h hu hm
  match parts, h2 with
  | [p, q], _ => exact ⟨p, q, m, by simpa using h1, h3 0 t1 p rfl rfl, h3 1 t2 q rfl rfl⟩
theorem fits_three (t1 t2 t3 : TypeId) (h : fitsD P B n t az) (hu : P.underlying t = some (.struct (P.fieldsOf t)) := by kernel_rfl) (hm : (P.fieldsOf t).toList.map (·.type) = [t1, t2, t3] := by kernel_rfl) :
    ∃ p q r m, az = p ++ q ++ r ∧ fitsD P B m t1 p ∧ fitsD P B m t2 q ∧ fitsD P B m t3 r := by
  obtain ⟨parts, m, h1, h2, h3⟩ := fits_types h hu hm
  match parts, h2 with
  | [p, q, r], _ => exact ⟨p, q, r, m, by simpa using h1, h3 0 t1 p rfl rfl, h3 1 t2 q rfl rfl, h3 2 t3 r rfl rfl⟩
theorem fits_list {α : Type} {cells : α → List AV} {Q : α → Prop} {xs : List (List AV)} (h : ∀ cs ∈ xs, ∃ a, cs = cells a ∧ Q a) : ∃ l : List α, xs = l.map cells ∧ ∀ a ∈ l, Q a := by
  induction xs with
  | nil => exact ⟨[], rfl, fun a ha => by cases ha⟩
  | cons x xs ih =>
    obtain ⟨a, h1, h2⟩ := h x (by simp)
    obtain ⟨l, h3, h4⟩ := ih (fun cs hcs => h cs (by simp [hcs]))
    refine ⟨a :: l, by simp [h1, h3], fun b hb => ?_⟩
    rcases List.mem_cons.1 hb with rfl | hb
    · exact h2
    · exact h4 b hb
end
end Go.Vm
end
section
namespace Go.Proofs
open Go.Vm
set_option linter.unusedVariables false
def iok (m : Int) : Prop := -9223372036854775808 ≤ m ∧ m < 9223372036854775808
theorem iok_wf {m : Int} (h : (Lit.int .i64 m).wf = true) : iok m := by
  have h1 : -9223372036854775808 ≤ m ∧ m ≤ 9223372036854775807 := by simpa [Lit.wf, IntKind.min, IntKind.max, IntKind.bits, IntKind.signed] using h
  exact ⟨h1.1, by omega⟩
def Val.ok (B : Nat) (x : Val) : Prop := (iok x.fKind) ∧ (iok x.fN)
theorem fits_Val84 {B n : Nat} {us : List AV} (h : fitsD Tryz.prog B n 84 us) : ∃ x : Val, us = Val.c x ∧ Val.ok B x := by
  obtain ⟨p, q, m, rfl, h0, h1⟩ := fits_two 3 3 h
  obtain ⟨x0, rfl, g0⟩ := fits_int (k := .i64) (by kernel_rfl) h0
  obtain ⟨x1, rfl, g1⟩ := fits_int (k := .i64) (by kernel_rfl) h1
  exact ⟨⟨x0, x1⟩, rfl, iok_wf g0, iok_wf g1⟩
def Node.ok (B : Nat) (x : Node) : Prop := (x.fClass.size ≤ B) ∧ (x.fVals.length ≤ B ∧ ∀ y ∈ x.fVals, Val.ok B y)
theorem fits_Node73 {B n : Nat} {us : List AV} (h : fitsD Tryz.prog B n 73 us) : ∃ x : Node, us = Node.c x ∧ Node.ok B x := by
  obtain ⟨p, q, m, rfl, h0, h1⟩ := fits_two 9 25 h
  obtain ⟨x0, rfl, g0⟩ := fits_str (by kernel_rfl) h0
  obtain ⟨y1, m1, rfl, g1, k1⟩ := fits_slice (e := 84) (by kernel_rfl) h1
  obtain ⟨x1, rfl, l1⟩ := fits_list (cells := Val.c) (Q := Val.ok B) (fun cs hcs => fits_Val84 (k1 cs hcs))
  rw [List.length_map] at g1
  exact ⟨⟨x0, x1⟩, rfl, g0, ⟨g1, l1⟩⟩
def Graph.ok (B : Nat) (x : Graph) : Prop := (x.fNodes.length ≤ B ∧ ∀ y ∈ x.fNodes, Node.ok B y) ∧ (x.fRoots.length ≤ B ∧ ∀ y ∈ x.fRoots, Val.ok B y)
theorem fits_Graph27 {B n : Nat} {us : List AV} (h : fitsD Tryz.prog B n 27 us) : ∃ x : Graph, us = Graph.c x ∧ Graph.ok B x := by
  obtain ⟨p, q, m, rfl, h0, h1⟩ := fits_two 24 25 h
  obtain ⟨y0, m0, rfl, g0, k0⟩ := fits_slice (e := 73) (by kernel_rfl) h0
  obtain ⟨x0, rfl, l0⟩ := fits_list (cells := Node.c) (Q := Node.ok B) (fun cs hcs => fits_Node73 (k0 cs hcs))
  rw [List.length_map] at g0
  obtain ⟨y1, m1, rfl, g1, k1⟩ := fits_slice (e := 84) (by kernel_rfl) h1
  obtain ⟨x1, rfl, l1⟩ := fits_list (cells := Val.c) (Q := Val.ok B) (fun cs hcs => fits_Val84 (k1 cs hcs))
  rw [List.length_map] at g1
  exact ⟨⟨x0, x1⟩, rfl, ⟨g0, l0⟩, ⟨g1, l1⟩⟩
def Col.ok (B : Nat) (x : Col) : Prop := (x.fName.size ≤ B) ∧ (iok x.fKind) ∧ (x.fClass.size ≤ B)
theorem fits_Col68 {B n : Nat} {us : List AV} (h : fitsD Tryz.prog B n 68 us) : ∃ x : Col, us = Col.c x ∧ Col.ok B x := by
  obtain ⟨p, q, r, m, rfl, h0, h1, h2⟩ := fits_three 9 3 9 h
  obtain ⟨x0, rfl, g0⟩ := fits_str (by kernel_rfl) h0
  obtain ⟨x1, rfl, g1⟩ := fits_int (k := .i64) (by kernel_rfl) h1
  obtain ⟨x2, rfl, g2⟩ := fits_str (by kernel_rfl) h2
  exact ⟨⟨x0, x1, x2⟩, rfl, g0, iok_wf g1, g2⟩
def Form.ok (B : Nat) (x : Form) : Prop := (x.fName.size ≤ B) ∧ (x.fCols.length ≤ B ∧ ∀ y ∈ x.fCols, Col.ok B y)
theorem fits_Form66 {B n : Nat} {us : List AV} (h : fitsD Tryz.prog B n 66 us) : ∃ x : Form, us = Form.c x ∧ Form.ok B x := by
  obtain ⟨p, q, m, rfl, h0, h1⟩ := fits_two 9 64 h
  obtain ⟨x0, rfl, g0⟩ := fits_str (by kernel_rfl) h0
  obtain ⟨y1, m1, rfl, g1, k1⟩ := fits_slice (e := 68) (by kernel_rfl) h1
  obtain ⟨x1, rfl, l1⟩ := fits_list (cells := Col.c) (Q := Col.ok B) (fun cs hcs => fits_Col68 (k1 cs hcs))
  rw [List.length_map] at g1
  exact ⟨⟨x0, x1⟩, rfl, g0, ⟨g1, l1⟩⟩
def Give.ok (B : Nat) (x : Give) : Prop := (x.fFrom.size ≤ B) ∧ (iok x.fHow) ∧ (iok x.fN)
theorem fits_Give82 {B n : Nat} {us : List AV} (h : fitsD Tryz.prog B n 82 us) : ∃ x : Give, us = Give.c x ∧ Give.ok B x := by
  obtain ⟨p, q, r, m, rfl, h0, h1, h2⟩ := fits_three 9 3 3 h
  obtain ⟨x0, rfl, g0⟩ := fits_str (by kernel_rfl) h0
  obtain ⟨x1, rfl, g1⟩ := fits_int (k := .i64) (by kernel_rfl) h1
  obtain ⟨x2, rfl, g2⟩ := fits_int (k := .i64) (by kernel_rfl) h2
  exact ⟨⟨x0, x1, x2⟩, rfl, g0, iok_wf g1, iok_wf g2⟩
def Rule.ok (B : Nat) (x : Rule) : Prop := (x.fClass.size ≤ B) ∧ (x.fTo.size ≤ B) ∧ (x.fGives.length ≤ B ∧ ∀ y ∈ x.fGives, Give.ok B y)
theorem fits_Rule71 {B n : Nat} {us : List AV} (h : fitsD Tryz.prog B n 71 us) : ∃ x : Rule, us = Rule.c x ∧ Rule.ok B x := by
  obtain ⟨p, q, r, m, rfl, h0, h1, h2⟩ := fits_three 9 9 69 h
  obtain ⟨x0, rfl, g0⟩ := fits_str (by kernel_rfl) h0
  obtain ⟨x1, rfl, g1⟩ := fits_str (by kernel_rfl) h1
  obtain ⟨y2, m2, rfl, g2, k2⟩ := fits_slice (e := 82) (by kernel_rfl) h2
  obtain ⟨x2, rfl, l2⟩ := fits_list (cells := Give.c) (Q := Give.ok B) (fun cs hcs => fits_Give82 (k2 cs hcs))
  rw [List.length_map] at g2
  exact ⟨⟨x0, x1, x2⟩, rfl, g0, g1, ⟨g2, l2⟩⟩
end Go.Proofs
end
section
namespace Go.Proofs
open Go.Vm
theorem f14_tot {g : Graph} {n : Nat} (hg : GraphSz n g) (hn : n < 4611686018427387904) : ∃ r, f14 n g = some r := by
  have hK : ∃ r, f14_k5 g = some r := by
    unfold f14_k5 f14_k42
    cases decide (len g.fNodes ≤ 30) <;> cases decide (len g.fRoots ≤ 10) <;> cases decide (len g.fRoots > 60) <;> cases decide (len g.fNodes > 400) <;> cases decide (len g.fNodes ≤ 410) <;> exact ⟨_, rfl⟩
  obtain ⟨K, hK⟩ := hK
  unfold f14
  rw [hK]
  have hl := hg.1
  refine scanTot g.fNodes.length (fun m (_ : Unit) k => f14_l8 g (some K) m k) (fun m k v hk => ?_) (fun m v => ?_) g.fNodes.length 0 n () (by omega) hl
  · show (∃ r, f14_l8 g (some K) (m + 1) k = some r) ∨ ∃ v' : Unit, f14_l8 g (some K) (m + 1) k = f14_l8 g (some K) m ((k + 1 : Nat) : Int)
    rw [f14_l8.eq_2]
    have h1 : decide ((k : Int) < len g.fNodes) = true := by simp [len]; omega
    have e0 : wr .i64 ((k : Int) + 1) = ((k + 1 : Nat) : Int) := by rw [wr_id (by omega) (by omega)]; omega
    rw [h1, gi_nat, List.getElem?_eq_getElem hk]
    simp only [cond_true, Option.bind_some, f14_k34, e0]
    cases decide (len g.fNodes[k].fVals > 8) <;> cases decide (len g.fNodes[k].fVals ≤ 30) <;> cases decide (len g.fNodes[k].fVals > 40) <;> first | exact .inl ⟨_, rfl⟩ | exact .inr ⟨(), rfl⟩
  · show ∃ r, f14_l8 g (some K) (m + 1) (g.fNodes.length : Int) = some r
    rw [f14_l8.eq_2]
    have h1 : decide ((g.fNodes.length : Int) < len g.fNodes) = false := by simp [len]
    rw [h1]; exact ⟨_, rfl⟩
end Go.Proofs
end
section
namespace Go.Proofs
open Go.Vm
theorem f13_tot {l : List Form} {n : Nat} (hz : FormSz n l) (hn : n < 4611686018427387904) : ∃ r, f13 n l = some r := by
  have hK : ∃ r, f13_k3 l = some r := by
    unfold f13_k3 f13_k128
    cases decide (len l ≤ 6) <;> cases decide (len l > 24) <;> exact ⟨_, rfl⟩
  obtain ⟨K, hK⟩ := hK
  have hl := hz.1
  have inner : ∀ (k : Nat) (hk : k < l.length) (A : Option Bool), (∃ r, f13_l90 l[k] l k A n 0 = some r) ∨ f13_l90 l[k] l k A n 0 = A := fun k hk A => by
    have hg : gi l (k : Int) = some l[k] := by rw [gi_nat, List.getElem?_eq_getElem hk]
    have hc := (hz.2 _ (List.getElem_mem hk)).2.1
    have key : ∀ (d j m : Nat), d + j = l[k].fCols.length → d < m → (∃ r, f13_l90 l[k] l k A m j = some r) ∨ f13_l90 l[k] l k A m j = A := by
      intro d
      induction d with
      | zero =>
        intro j m hj hm
        obtain ⟨m, rfl⟩ := Nat.exists_eq_succ_of_ne_zero (by omega : m ≠ 0)
        right
        rw [f13_l90.eq_2]
        have h1 : decide ((j : Int) < len l[k].fCols) = false := by simp [len]; omega
        rw [h1]; rfl
      | succ d ih =>
        intro j m hj hm
        obtain ⟨m, rfl⟩ := Nat.exists_eq_succ_of_ne_zero (by omega : m ≠ 0)
        have hj2 : j < l[k].fCols.length := by omega
        have h1 : decide ((j : Int) < len l[k].fCols) = true := by simp [len]; omega
        have e0 : wr .i64 ((j : Int) + 1) = ((j + 1 : Nat) : Int) := by rw [wr_id (by omega) (by omega)]; omega
        have := ih (j + 1) m (by omega) (by omega)
        rw [f13_l90.eq_2, h1, hg]
        simp only [cond_true, Option.bind_some, gi_nat, List.getElem?_eq_getElem hj2, f13_k115, e0]
        cases decide (bsz l[k].fCols[j].fName > 30) <;> cases decide (bsz l[k].fCols[j].fClass > 30) <;> first | exact this | exact .inl ⟨_, rfl⟩
    exact key l[k].fCols.length 0 n (by omega) hc
  unfold f13
  rw [hK]
  refine scanTot l.length (fun m (_ : Unit) k => f13_l6 l n (some K) m k) (fun m k v hk => ?_) (fun m v => ?_) l.length 0 n () (by omega) hl
  · show (∃ r, f13_l6 l n (some K) (m + 1) k = some r) ∨ ∃ v' : Unit, f13_l6 l n (some K) (m + 1) k = f13_l6 l n (some K) m ((k + 1 : Nat) : Int)
    rw [f13_l6.eq_2]
    have h1 : decide ((k : Int) < len l) = true := by simp [len]; omega
    have e0 : wr .i64 ((k : Int) + 1) = ((k + 1 : Nat) : Int) := by rw [wr_id (by omega) (by omega)]; omega
    have hg : gi l (k : Int) = some l[k] := by rw [gi_nat, List.getElem?_eq_getElem hk]
    rw [h1, hg]
    simp only [cond_true, Option.bind_some, f13_k79]
    have hi : (∃ r, f13_l90 l[k] l k (f13_k72 k (f13_l6 l n (some K) m)) n 0 = some r) ∨ f13_l90 l[k] l k (f13_k72 k (f13_l6 l n (some K) m)) n 0 = f13_l6 l n (some K) m ((k + 1 : Nat) : Int) := by
      have := inner k hk (f13_k72 k (f13_l6 l n (some K) m))
      rw [show f13_k72 (k : Int) (f13_l6 l n (some K) m) = f13_l6 l n (some K) m ((k + 1 : Nat) : Int) by unfold f13_k72; rw [e0]] at this ⊢
      exact this
    have hi2 : (∃ r, f13_l90 l[k] l k (f13_k72 k (f13_l6 l n (some K) m)) n 0 = some r) ∨ ∃ v' : Unit, f13_l90 l[k] l k (f13_k72 k (f13_l6 l n (some K) m)) n 0 = f13_l6 l n (some K) m ((k + 1 : Nat) : Int) := hi.imp id fun h => ⟨(), h⟩
    cases decide (bsz l[k].fName > 30) <;> cases decide (len l[k].fCols > 6) <;> cases decide (len l[k].fCols ≤ 30) <;> cases decide (len l[k].fCols > 40) <;> first | exact hi2 | exact .inl ⟨_, rfl⟩
  · show ∃ r, f13_l6 l n (some K) (m + 1) (l.length : Int) = some r
    rw [f13_l6.eq_2]
    have h1 : decide ((l.length : Int) < len l) = false := by simp [len]
    rw [h1]; exact ⟨_, rfl⟩
end Go.Proofs
end
section
set_option linter.unusedVariables false
namespace Go.Proofs
open Go.Vm
theorem f15_tt : f15 40 = some true := rfl
theorem Val.eqB_refl (a : Val) : Val.eqB a a = true := by unfold Val.eqB; simp
theorem bytes_refl (a : ByteArray) : (a == a) = true := by
  show (a.data == a.data) = true
  simp
theorem Refusal.eqB_refl (a : Refusal) : Refusal.eqB a a = true := by unfold Refusal.eqB; rw [bytes_refl]; simp
theorem scan1 {ρ : Type} (N : Nat) (K : Option ρ) (L : Nat → Int → Option ρ) (hL : ∀ m (k : Nat), k < N → L (m + 1) k = L m (wr .i64 (k + 1))) (hK : ∀ m, L (m + 1) N = K) (hl : N < 4611686018427387904) {n : Nat} (hn : N < n) : L n 0 = K := by
  have h := scanN N K (fun _ acc => acc) L hL hK hl N 0 n (by omega) hn
  have hg : ∀ d k, goN (fun _ (acc : Option ρ) => acc) K d k = K := fun d => by
    induction d with
    | zero => intro k; rfl
    | succ d ih => intro k; exact ih (k + 1)
  exact h.trans (hg N 0)
theorem f75_refl {n : Nat} {l : List Val} (hl : l.length < n) (hn : n < 4611686018427387904) : f75 n l l = some true := by
  unfold f75
  rw [bne_len, beq_self_eq_true]
  exact scan1 l.length f75_k10 (f75_l13 l l f75_k10) (fun m k hk => by
    rw [f75_l13.eq_2, lt_len l k hk, gi_nat]
    simp only [List.getElem?_eq_getElem hk, Option.bind_some, cond_true, Val.eqB_refl, Bool.not_true, cond_false])
    (fun m => by rw [f75_l13.eq_2, ge_len]; rfl) (by omega) hl
theorem f27_refl {n : Nat} {g : Graph} (hg : GraphSz n g) (hn : n < 4611686018427387904) : f27 n g g = some true := by
  unfold f27 f27_k8
  rw [f75_refl hg.2.1 hn, bne_len, beq_self_eq_true]
  exact scan1 g.fNodes.length f27_k15 (f27_l18 g g n f27_k15) (fun m k hk => by
    rw [f27_l18.eq_2, lt_len _ k hk, gi_nat]
    simp only [List.getElem?_eq_getElem hk, Option.bind_some, cond_true]
    rw [f75_refl (hg.2.2 _ (List.getElem_mem hk)) hn]
    simp only [Option.bind_some, Bool.not_true, cond_false, sEqF_refl]
    rfl)
    (fun m => by rw [f27_l18.eq_2, ge_len]; rfl) (by have := hg.1; omega) hg.1
theorem f31_tot {n : Nat} {L : List Rule} (hL : L.length < n) (hn : n < 4611686018427387904) : ∃ r, f31 n L = some r := by
  have hK : ∃ r, f31_k3 L = some r := by
    unfold f31_k3 f31_k32
    cases decide (len L ≤ 8) <;> cases decide (len L > 24) <;> exact ⟨_, rfl⟩
  unfold f31
  have h := scanN L.length (f31_k3 L) (fun k acc => match L[k]? with | some r => bif decide (len r.fGives > 8) then some false else acc | none => none) (f31_l6 L (f31_k3 L)) (fun m k hk => by
    rw [f31_l6.eq_2, lt_len L k hk, gi_nat]
    simp only [List.getElem?_eq_getElem hk, Option.bind_some, cond_true]) (fun m => by rw [f31_l6.eq_2, ge_len]; rfl) (by omega) L.length 0 n (by omega) hL
  have h' : f31_l6 L (f31_k3 L) n 0 = _ := h
  rw [h']
  refine goN_tot _ L.length (fun k acc hk ha => ?_) L.length 0 _ (by omega) hK
  simp only [List.getElem?_eq_getElem hk]
  cases decide (len L[k].fGives > 8)
  · exact ha
  · exact ⟨_, rfl⟩
theorem f200_true {n : Nat} {A B : List Form} {L : List Rule} {g : Graph} (hA : FormSz n A) (hB : FormSz n B) (hL : L.length < n) (hg : GraphSz n g) (h9 : 100 < n) (hn : n < 1000000000) : f200 n A B L g = some true := by
  have hn' : n < 4611686018427387904 := by omega
  have h1 : f200_k7 n A B L g true = some true := by unfold f200_k7; rw [f15_tt]; rfl
  obtain ⟨r, h2, h3, h4⟩ := f32_f204 hA hB hL hg h9 hn
  have h5 : ∀ c, f200_k7 n A B L g c = some true := fun c => by
    cases c
    · unfold f200_k7
      rw [f15_tt, h2, h3]
      simp only [Option.bind_some, cond_false]
      rw [f27_refl h4 hn']
      simp only [Option.bind_some, Refusal.eqB_refl, beq_self_eq_true, cond_true]
      rfl
    · exact h1
  obtain ⟨a, ha⟩ := f13_tot hA hn'
  obtain ⟨b, hb⟩ := f13_tot hB hn'
  obtain ⟨c, hc⟩ := f31_tot hL hn'
  obtain ⟨d, hd⟩ := f14_tot hg hn'
  unfold f200
  rw [ha, hb, hc, hd]
  cases a <;> cases b <;> cases c <;> simp [h5]
theorem formSz_ok2 {l : List Form} {B n : Nat} (h : l.length ≤ B ∧ ∀ y ∈ l, Form.ok B y) (hn : B < n) : FormSz n l :=
  ⟨by omega, fun f hf => ⟨by have := (h.2 f hf).1; omega, by have := (h.2 f hf).2.1; omega, fun c hc => by have := ((h.2 f hf).2.2 c hc).1; omega⟩⟩
theorem graphSz_ok2 {g : Graph} {B n : Nat} (h : Graph.ok B g) (hn : B < n) : GraphSz n g :=
  ⟨by have := h.1.1; omega, by have := h.2.1; omega, fun x hx => by have := (h.1.2 x hx).2.1; omega⟩
theorem packConvertsplain {A B : List Form} {L : List Rule} {g : Graph} (hA : A.length ≤ 1048576 ∧ ∀ y ∈ A, Form.ok 1048576 y) (hB : B.length ≤ 1048576 ∧ ∀ y ∈ B, Form.ok 1048576 y) (hL : L.length ≤ 1048576 ∧ ∀ y ∈ L, Rule.ok 1048576 y) (hg : Graph.ok 1048576 g) : ∃ n, f200 n A B L g = some true :=
  ⟨4194304, f200_true (formSz_ok2 hA (by decide)) (formSz_ok2 hB (by decide)) (by omega) (graphSz_ok2 hg (by decide)) (by decide) (by decide)⟩
end Go.Proofs
end
