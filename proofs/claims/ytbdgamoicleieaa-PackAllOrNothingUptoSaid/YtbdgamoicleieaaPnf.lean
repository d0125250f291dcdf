/- Texts of this claim, one behind the other. -/
import Derived.Test.YtbdgamoicleieaaPne
set_option linter.unusedVariables false
set_option linter.unusedSimpArgs false
set_option linter.unnecessarySimpa false
section
set_option linter.unusedVariables false
set_option linter.unusedSimpArgs false
namespace Go.Proofs
open Go.Vm
section
variable {A B : List Form} {L : List Rule} {g h : Graph} {t : Int → Int}
def Onto (t : Int → Int) (N : Nat) : Prop := ∀ z, InN N z → ∃ y, InN N y ∧ t y = z
theorem nodeAt_get {g : Graph} {k : Nat} (hk : k < g.fNodes.length) : g.fNodes[k]? = some (nodeAt g k) := by
  unfold nodeAt
  rw [Int.toNat_natCast, List.getElem?_eq_getElem hk]
  rfl
theorem conv_renum (hA : FormsOk A) (hr : rulesE A B L = 0) (hg : GoodG A g) (r : Renum t g h) (ho : Onto t g.fNodes.length) (hrg : ∀ y, InN g.fNodes.length y → InN g.fNodes.length (t y)) {ns : List Node} (hf : fin (nodeMk A B L g) g.fNodes.length 0 [] = .inl ns)
    (hB : GoodG B ⟨ns, g.fRoots⟩) : ∃ ms, fin (nodeMk A B L h) h.fNodes.length 0 [] = .inl ms ∧ Renum t ⟨ns, g.fRoots⟩ ⟨ms, h.fRoots⟩ := by
  obtain ⟨w, e, hlen, hmk⟩ := fin_get _ _ _ _ hf
  have e : ns = w := by simpa using e
  subst e
  have one : ∀ y, InN g.fNodes.length y → ∃ v, rowMk A B L (nodeAt g y) = .inl v ∧ nodeAt ⟨ns, g.fRoots⟩ y = ⟨(ruleAt L (nodeAt g y).fClass).fTo, v⟩ := fun y hy => by
    obtain ⟨k, rfl⟩ := Int.eq_ofNat_of_zero_le hy.1
    have hk : k < g.fNodes.length := by have := hy.2; omega
    have hk2 : k < ns.length := by omega
    have hm := hmk k _ (List.getElem?_eq_getElem hk2)
    rw [Nat.zero_add] at hm
    obtain ⟨x, v, h1, h2, h3⟩ := nodeMk_inl hm
    rw [nodeAt_get hk] at h1
    cases h1
    refine ⟨v, h2, ?_⟩
    have := nodeAt_get (g := ⟨ns, g.fRoots⟩) (k := k) hk2
    rw [show (Graph.mk ns g.fRoots).fNodes[k]? = ns[k]? from rfl, List.getElem?_eq_getElem hk2] at this
    rw [← Option.some.inj this, h3]
  have memA : ∀ y, InN g.fNodes.length y → nodeAt g y ∈ g.fNodes := fun y hy => by
    obtain ⟨k, rfl⟩ := Int.eq_ofNat_of_zero_le hy.1
    exact List.mem_of_getElem? (nodeAt_get (by have := hy.2; omega))
  have two : ∀ y, InN g.fNodes.length y → ∀ k : Nat, t y = k → ∃ v, nodeAt ⟨ns, g.fRoots⟩ y = ⟨(ruleAt L (nodeAt g y).fClass).fTo, v⟩ ∧ nodeMk A B L h k = .inl ⟨(ruleAt L (nodeAt g y).fClass).fTo, v.map (tv t)⟩ := fun y hy k hk => by
    obtain ⟨v, h1, h2⟩ := one y hy
    refine ⟨v, h2, ?_⟩
    have hz := hrg y hy
    rw [hk] at hz
    have hkN : k < h.fNodes.length := by rw [r.n]; have := hz.2; omega
    have hn := nodeAt_get hkN
    rw [← hk, r.nd y hy] at hn
    unfold nodeMk
    rw [hn]
    show (rowMk A B L ⟨(nodeAt g y).fClass, (nodeAt g y).fVals.map (tv t)⟩).elim (fun v => (.inl ⟨(ruleAt L (nodeAt g y).fClass).fTo, v⟩ : Node ⊕ Refusal)) (fun s => .inr ⟨k, s⟩) = _
    rw [row_tv hA hr hg (memA y hy), h1]
    rfl
  obtain ⟨ms, hms⟩ := fin_all (mk := nodeMk A B L h) h.fNodes.length 0 [] (fun j hj => by
    obtain ⟨y, hy, hty⟩ := ho (j : Int) ⟨by omega, by rw [← r.n]; omega⟩
    obtain ⟨v, _, h2⟩ := two y hy j hty
    rw [Nat.zero_add]
    exact ⟨_, h2⟩)
  obtain ⟨w, e, hlen2, hmk2⟩ := fin_get _ _ _ _ hms
  have e : ms = w := by simpa using e
  subst e
  refine ⟨ms, hms, ⟨?_, ?_, ?_, r.rt, ?_, ?_⟩⟩
  · show ms.length = ns.length
    rw [hlen2, hlen, r.n]
  · intro y z hy hz
    have hy : InN ns.length y := hy
    have hz : InN ns.length z := hz
    rw [hlen] at hy hz
    exact r.inj y z hy hz
  · intro y hy
    have hy : InN ns.length y := hy
    rw [hlen] at hy
    have hz := hrg y hy
    obtain ⟨k, hk⟩ := Int.eq_ofNat_of_zero_le hz.1
    obtain ⟨v, h1, h2⟩ := two y hy k hk
    have hkm : k < ms.length := by rw [hlen2, r.n]; have := hz.2; omega
    have hm := hmk2 k _ (List.getElem?_eq_getElem hkm)
    rw [Nat.zero_add, h2] at hm
    have hn := nodeAt_get (g := ⟨ms, h.fRoots⟩) (k := k) hkm
    rw [show (Graph.mk ms h.fRoots).fNodes[k]? = ms[k]? from rfl, List.getElem?_eq_getElem hkm] at hn
    rw [hk, ← Option.some.inj hn, ← Sum.inl.inj hm, h1]
  · intro y hy v hv hk
    have hy : InN ns.length y := hy
    show InN ns.length v.fN
    have hm : nodeAt ⟨ns, g.fRoots⟩ y ∈ ns := by
      obtain ⟨k, rfl⟩ := Int.eq_ofNat_of_zero_le hy.1
      exact List.mem_of_getElem? (nodeAt_get (g := ⟨ns, g.fRoots⟩) (by have := hy.2; show k < ns.length; omega))
    have hb := hB.fr.2.2.1 _ hm v hv
    obtain ⟨vk, vn⟩ := v
    have hk : vk = 4 := hk
    subst hk
    obtain ⟨k, h1, h2⟩ := valB_ref (l := ns) hB.fr.1.1 hb
    have h1 : vn = k := h1
    show InN ns.length vn
    exact ⟨by omega, by omega⟩
  · intro v hv hk
    show InN ns.length v.fN
    have hb := (hB.fr.2.2.2 v hv).1
    obtain ⟨vk, vn⟩ := v
    have hk : vk = 4 := hk
    subst hk
    obtain ⟨k, h1, h2⟩ := valB_ref (l := ns) hB.fr.1.1 hb
    have h1 : vn = k := h1
    show InN ns.length vn
    exact ⟨by omega, by omega⟩
end
end Go.Proofs
end
section
set_option linter.unusedVariables false
set_option linter.unusedSimpArgs false
namespace Go.Proofs
open Go.Vm
section
variable {g : Graph} {o : List Int} {N : Nat}
theorem ord_all (h : OrdOk N o) (hl : o.length = N) {y : Int} (hy : InN N y) : y ∈ o := by
  by_cases hm : y ∈ o
  · exact hm
  · have := nodup_len N (y :: o) (List.nodup_cons.2 ⟨hm, h.nd⟩) (fun z hz => by
      rcases List.mem_cons.1 hz with rfl | hz
      · exact hy
      · exact h.rg z hz)
    rw [List.length_cons] at this
    omega
theorem ixI_mem {y : Int} (hy : y ∈ o) : ixI o y = (o.idxOf y : Int) := by
  unfold ixI
  rw [contains_iff.2 hy]
  rfl
theorem ixI_inj {y z : Int} (hy : y ∈ o) (hz : z ∈ o) (h : ixI o y = ixI o z) : y = z := by
  rw [ixI_mem hy, ixI_mem hz] at h
  have h : o.idxOf y = o.idxOf z := by omega
  have h1 := List.getElem_idxOf (List.idxOf_lt_length_iff.2 hy)
  have h2 := List.getElem_idxOf (List.idxOf_lt_length_iff.2 hz)
  rw [← h1, ← h2]
  simp only [h]
theorem canon_renum (h : OrdOk g.fNodes.length (orderR g)) (hl : (orderR g).length = g.fNodes.length) (rn : ∀ y, InN g.fNodes.length y → ∀ v ∈ (nodeAt g y).fVals, v.fKind = 4 → InN g.fNodes.length v.fN)
    (rr : ∀ v ∈ g.fRoots, v.fKind = 4 → InN g.fNodes.length v.fN) :
    Renum (ixI (orderR g)) g (canG g) ∧ Onto (ixI (orderR g)) g.fNodes.length ∧ ∀ y, InN g.fNodes.length y → InN g.fNodes.length (ixI (orderR g) y) := by
  have hall : ∀ y, InN g.fNodes.length y → y ∈ orderR g := fun y hy => ord_all h hl hy
  refine ⟨⟨?_, fun y z hy hz he => ixI_inj (hall y hy) (hall z hz) he, fun y hy => ?_, rfl, rn, rr⟩, fun z hz => ?_, fun y hy => ?_⟩
  · show ((orderR g).map (nodeR g (orderR g))).length = _
    rw [List.length_map, hl]
  · have hm := hall y hy
    rw [ixI_mem hm]
    have hi := List.idxOf_lt_length_iff.2 hm
    unfold nodeAt
    rw [Int.toNat_natCast]
    show (((orderR g).map (nodeR g (orderR g)))[(orderR g).idxOf y]?).getD _ = _
    rw [List.getElem?_map, List.getElem?_eq_getElem hi, List.getElem_idxOf hi]
    rfl
  · obtain ⟨k, rfl⟩ := Int.eq_ofNat_of_zero_le hz.1
    have hk : k < (orderR g).length := by rw [hl]; have := hz.2; omega
    have hm := List.getElem_mem hk
    refine ⟨(orderR g)[k], h.rg _ hm, ?_⟩
    rw [ixI_mem hm, h.nd.idxOf_getElem k hk]
  · rw [ixI_mem (hall y hy)]
    have := List.idxOf_lt_length_iff.2 (hall y hy)
    exact ⟨by omega, by omega⟩
end
theorem clsAt_node {l : List Node} {r : List Val} {k : Nat} (hk : k < l.length) : clsAt l k = (nodeAt ⟨l, r⟩ k).fClass := by
  unfold clsAt
  have := nodeAt_get (g := ⟨l, r⟩) (k := k) hk
  have this : l[k]? = some (nodeAt ⟨l, r⟩ k) := this
  rw [gi_nat, this]
  rfl
theorem good_renum {A : List Form} {g h : Graph} {t : Int → Int} (hg : GoodG A g) (r : Renum t g h) (ho : Onto t g.fNodes.length) (hrg : ∀ y, InN g.fNodes.length y → InN g.fNodes.length (t y)) : GoodG A h := by
  have hll : len h.fNodes = len g.fNodes := by have := r.n; unfold len; omega
  have memA : ∀ y, InN g.fNodes.length y → nodeAt g y ∈ g.fNodes := fun y hy => by
    obtain ⟨k, rfl⟩ := Int.eq_ofNat_of_zero_le hy.1
    exact List.mem_of_getElem? (nodeAt_get (by have := hy.2; omega))
  have one : ∀ x ∈ h.fNodes, ∃ y, y ∈ g.fNodes ∧ x = ⟨y.fClass, y.fVals.map (tv t)⟩ := fun x hx => by
    obtain ⟨k, hk, rfl⟩ := List.getElem_of_mem hx
    obtain ⟨y, hy, hty⟩ := ho (k : Int) ⟨by omega, by rw [← r.n]; omega⟩
    have := r.nd y hy
    have hn := nodeAt_get hk
    rw [List.getElem?_eq_getElem hk] at hn
    rw [hty, ← Option.some.inj hn] at this
    exact ⟨_, memA y hy, this⟩
  have hv : ∀ v, valB v (len g.fNodes) = true → valB (tv t v) (len g.fNodes) = true ∧ (v.fKind = 4 → clsAt h.fNodes (tv t v).fN = clsAt g.fNodes v.fN) := fun v hv => by
    obtain ⟨vk, vn⟩ := v
    by_cases hk : vk = 4
    · subst hk
      obtain ⟨k, h1, h2⟩ := valB_ref hg.fr.1.1 hv
      have h1 : vn = k := h1
      subst h1
      have hin : InN g.fNodes.length (k : Int) := ⟨by omega, by omega⟩
      have hz := hrg _ hin
      obtain ⟨m, hm⟩ := Int.eq_ofNat_of_zero_le hz.1
      have hm2 : m < g.fNodes.length := by have := hz.2; omega
      refine ⟨?_, fun _ => ?_⟩
      · show inR (t k) 0 (wr .i64 (len g.fNodes - 1)) = true
        have := hg.fr.1.1
        unfold inR len
        rw [wr_id (by omega) (by omega), hm]
        simp only [Bool.and_eq_true, decide_eq_true_eq]
        omega
      · show clsAt h.fNodes (t k) = clsAt g.fNodes k
        rw [hm, clsAt_node (r := h.fRoots) (by rw [r.n]; exact hm2), clsAt_node (r := g.fRoots) h2, ← hm]
        show (nodeAt h (t k)).fClass = (nodeAt g k).fClass
        rw [r.nd _ hin]
    · have hk' : (vk == 4) = false := by simpa using hk
      refine ⟨?_, fun h => absurd h hk⟩
      show valB ⟨vk, bif vk == 4 then t vn else vn⟩ (len g.fNodes) = true
      rw [hk']
      exact hv
  refine ⟨⟨⟨by rw [r.n]; exact hg.fr.1.1, by rw [r.rt, List.length_map]; exact hg.fr.1.2⟩, fun x hx => ?_, fun x hx w hw => ?_, fun w hw => ?_⟩, fun x hx => ?_, fun x hx => ?_, fun x hx j c w hc hw => ?_⟩
  · obtain ⟨y, hy, rfl⟩ := one x hx
    show (y.fVals.map (tv t)).length ≤ 30
    rw [List.length_map]
    exact hg.fr.2.1 y hy
  · obtain ⟨y, hy, rfl⟩ := one x hx
    obtain ⟨v, hv2, rfl⟩ := List.mem_map.1 hw
    rw [hll]
    exact (hv v (hg.fr.2.2.1 y hy v hv2)).1
  · rw [r.rt] at hw
    obtain ⟨v, hv2, rfl⟩ := List.mem_map.1 hw
    rw [hll]
    exact ⟨(hv v (hg.fr.2.2.2 v hv2).1).1, (hg.fr.2.2.2 v hv2).2⟩
  · obtain ⟨y, hy, rfl⟩ := one x hx
    exact hg.cl y hy
  · obtain ⟨y, hy, rfl⟩ := one x hx
    show (y.fVals.map (tv t)).length = _
    rw [List.length_map]
    exact hg.ln y hy
  · obtain ⟨y, hy, rfl⟩ := one x hx
    have hw : (y.fVals.map (tv t))[j]? = some w := hw
    rw [List.getElem?_map] at hw
    cases hv3 : y.fVals[j]? with
    | none => rw [hv3] at hw; cases hw
    | some v =>
      rw [hv3] at hw
      have hw : some (tv t v) = some w := hw
      cases hw
      have s1 := hg.su y hy j c v hc hv3
      have s2 := (hv v (hg.fr.2.2.1 y hy v (List.mem_of_getElem? hv3))).2
      unfold suitsC at s1 ⊢
      show (bif c.fKind == 1 then v.fKind == 1 else bif c.fKind == 2 then v.fKind == 2 else bif v.fKind == 3 then true else (v.fKind == 4) && (sEqF c.fClass ANY || sEqF (clsAt h.fNodes (tv t v).fN) c.fClass)) = true
      cases h4 : v.fKind == 4 with
      | true => rw [s2 (eq_of_beq h4)]; rw [h4] at s1; exact s1
      | false => rw [h4] at s1; exact s1
end Go.Proofs
end
section
namespace Go.Proofs
open Go.Vm
theorem app2_ok {α : Type} {l l2 : List α} (h : l.length + l2.length ≤ 4000000000) : app2 l l2 = some (l ++ l2) := app2_eq h
structure Sized (g : Graph) : Prop where
  nd : g.fNodes.length ≤ 400
  rt : g.fRoots.length ≤ 60
  vl : ∀ x ∈ g.fNodes, x.fVals.length ≤ 30
theorem refs_len (l : List Val) : (refsOf l).length ≤ l.length := by
  unfold refsOf
  rw [List.length_map]
  exact List.length_filter_le _ _
theorem foldB_meet {N : Nat} (hN : N ≤ 400) (B : Int → List (Int × Int) × List Int → Option (List (Int × Int) × List Int))
    (hB : ∀ y v, B y v = (bif !(mget y v.1).isSome then (app2 v.2 [y]).bind fun l => some (mset y (len v.2) v.1, l) else some (v.1, v.2))) :
    ∀ (l : List Int) (o : List Int), OrdOk N o → (∀ y ∈ l, 0 ≤ y ∧ y < (N : Int)) → foldB B l (mapOf o, o) = some (mapOf (l.foldl meetY o), l.foldl meetY o)
  | [], o, _, _ => rfl
  | y :: l, o, ho, hl => by
    have hlen := ho.len
    have h1 : B y (mapOf o, o) = some (mapOf (meetY o y), meetY o y) := by
      rw [hB]
      dsimp only
      rw [mget_isSome]
      unfold meetY
      cases hc : o.contains y with
      | true => rfl
      | false =>
        simp only [Bool.not_false, cond_true, cond_false]
        rw [app2_ok (by simp; omega), mset_of hc]; rfl
    simp only [foldB, h1, Option.bind_some, List.foldl_cons]
    exact foldB_meet hN B hB l _ (ho.meetY (hl y (by simp))) (fun z hz => hl z (by simp [hz]))
theorem f100_eq {N n : Nat} (hN : N ≤ 400) {l : List Val} {a1 : List Node} {a2 : List Val} {a3 o : List Int} {a6 : List Node} {a7 : List Val} (ho : OrdOk N o) (hl : RefOk N l) (hs : l.length ≤ 60) :
    f100 n a1 a2 a3 (mapOf o) o a6 a7 l = some (mapOf (meetL o l), meetL o l) := by
  have h1 := ho.len
  have h2 := refs_len l
  unfold f100 f101
  simp only [Option.bind_some]
  rw [show Nat.ble (o.length + (refsOf l).length) 1000000000 = true from Nat.ble_eq_true_of_le (by omega)]
  rw [foldB_meet hN f100_b13 (fun y v => rfl) (refsOf l) o ho hl]
  rfl
theorem f100_b_eq {N n : Nat} (hN : N ≤ 400) {l : List Val} {a1 : List Node} {a2 : List Val} {o : List Int} {a6 : List Node} {a7 : List Val} (ho : OrdOk N o) (hl : RefOk N l) (hs : l.length ≤ 60) :
    f100_b n a1 a2 (mapOf o) o a6 a7 l = some (mapOf (meetL o l), meetL o l) := by
  have h1 := ho.len
  have h2 := refs_len l
  unfold f100_b f101
  simp only [Option.bind_some]
  rw [show Nat.ble (o.length + (refsOf l).length) 1000000000 = true from Nat.ble_eq_true_of_le (by omega)]
  rw [foldB_meet hN f100_b_b12 (fun y v => rfl) (refsOf l) o ho hl]
  rfl
theorem f62_walk {g : Graph} (hg : GraphOk g) (hz : Sized g) {n : Nat} (hn : 500 < n) (K : List (Int × Int) → List Int → Option (Graph × List Int)) :
    f62_l13 g n K n 0 (mapOf (meetL [] g.fRoots)) (meetL [] g.fRoots) = K (mapOf (orderR g)) (orderR g) := by
  have hN := hz.nd
  refine walkLoop hg (fun o => (mapOf o, o)) (fun m i p => f62_l13 g n K m i p.1 p.2) (fun p => K p.1 p.2) (fun m i o y ho hy => ?_) (fun m o ho => ?_) (g.fNodes.length + 1) 0 n _ ((OrdOk.nil _).meetL hg.rt) (Nat.zero_le _) (by omega) (by omega)
  · have hlt := (List.getElem?_eq_some_iff.1 hy).1
    have hlen := ho.len
    have hyr := ho.rg y (List.mem_of_getElem? hy)
    show f62_l13 g n K (m + 1) (i : Int) (mapOf o) o = _
    rw [f62_l13.eq_2]
    rw [show ((i : Int) == len o) = false by simp [len]; omega, gi_nat, hy]
    simp only [cond_false, Option.bind_some]
    rw [gi_node hyr]
    simp only [Option.bind_some]
    rw [f100_b_eq hN ho (hg.vals hyr) (by have := hz.vl _ (nodeAt_mem hyr).2; omega), wr_succ (by omega)]
    rfl
  · show f62_l13 g n K (m + 1) (o.length : Int) (mapOf o) o = _
    rw [f62_l13.eq_2]
    rw [show ((o.length : Int) == len o) = true by simp [len]]
    rfl
theorem f102_round {o : List Int} {l : List Val} (hc : ∀ r ∈ refsOf l, r ∈ o) {k : Nat} (hk : k < l.length) :
    (l[k].fKind == 4) = true → (mget l[k].fN (mapOf o)).getD 0 = ixI o l[k].fN := fun h => by
  apply mget_ix
  apply hc
  unfold refsOf
  exact List.mem_map.2 ⟨l[k], List.mem_filter.2 ⟨List.getElem_mem hk, h⟩, rfl⟩
theorem half_get {α β : Type} {f : α → β} {l : List α} {l' : List β} {k : Nat} (hk : k < l.length) (hl : l'.length = l.length) : ((l.take k).map f ++ l'.drop k)[k]? = l'[k]? := by
  rw [List.getElem?_append_right (by simp; omega)]
  simp only [List.length_map, List.length_take, List.getElem?_drop]
  congr 1
  omega
theorem half_set {α : Type} {f : α → α} {l : List α} {k : Nat} (hk : k < l.length) : ((l.take k).map f ++ l.drop k).set k (f l[k]) = (l.take (k + 1)).map f ++ l.drop (k + 1) := by
  rw [List.set_append_right _ _ (by simp; omega)]
  simp only [List.length_map, List.length_take]
  rw [show k - min k l.length = 0 by omega, List.drop_eq_getElem_cons hk, List.set_cons_zero, List.take_add_one, List.getElem?_eq_getElem hk, List.map_append, List.append_assoc]
  rfl
theorem half_same {α : Type} {f : α → α} {l : List α} {k : Nat} (hk : k < l.length) (hf : f l[k] = l[k]) : (l.take k).map f ++ l.drop k = (l.take (k + 1)).map f ++ l.drop (k + 1) := by
  rw [← half_set hk, hf]
  symm
  apply set_same
  rw [half_get hk rfl, List.getElem?_eq_getElem hk]
theorem f102_eq {n : Nat} {o : List Int} {l : List Val} {a1 : List Node} {a2 : List Val} {a4 : List Int} {a5 : List Node} {a6 : List Val} (hc : ∀ r ∈ refsOf l, r ∈ o) (hl : l.length ≤ 60) (hn : 500 < n) :
    f102 n a1 a2 (mapOf o) a4 a5 a6 l = some (l.map (mvR o)) := by
  unfold f102
  rw [app2_ok (by simp; omega)]
  simp only [List.nil_append, Option.bind_some]
  have := loopT (N := l.length) (fun m k s => f102_l16 l (mapOf o) f102_k12 m k s) (fun s => some s) (fun k => (l.take k).map (mvR o) ++ l.drop k) (fun m k hk => ?_) (fun m => ?_) l.length 0 n (by omega) (by omega)
  · simpa using this
  · show f102_l16 l (mapOf o) f102_k12 (m + 1) (k : Int) _ = _
    rw [f102_l16.eq_2]
    have hg : gi ((l.take k).map (mvR o) ++ l.drop k) (k : Int) = some l[k] := by rw [gi_nat, half_get hk rfl, List.getElem?_eq_getElem hk]
    rw [lt_len hk, hg]
    simp only [cond_true, Option.bind_some, f102_k41]
    rw [wr_succ (by omega)]
    cases h4 : (l[k].fKind == 4) with
    | true =>
      simp only [cond_true]
      rw [f102_round hc hk h4]
      have : (⟨l[k].fKind, ixI o l[k].fN⟩ : Val) = mvR o l[k] := by unfold mvR; rw [h4]; rfl
      rw [this]
      unfold setI
      rw [Int.toNat_natCast, half_set hk]
    | false =>
      simp only [cond_false]
      rw [half_same hk]
      unfold mvR; rw [h4]; rfl
  · show f102_l16 l (mapOf o) f102_k12 (m + 1) (l.length : Int) _ = _
    rw [f102_l16.eq_2, ge_len]
    rfl
theorem f102_b_eq {n : Nat} {o : List Int} {l : List Val} {a1 : List Node} {a2 : List Val} {a4 : List Int} {a5 : List Val} {a6 a7 : List Node} {a8 : List Val} (hc : ∀ r ∈ refsOf l, r ∈ o) (hl : l.length ≤ 60) (hn : 500 < n) :
    f102_b n a1 a2 (mapOf o) a4 a5 a6 a7 a8 l = some (l.map (mvR o)) := by
  unfold f102_b
  rw [app2_ok (by simp; omega)]
  simp only [List.nil_append, Option.bind_some]
  have := loopT (N := l.length) (fun m k s => f102_b_l18 l (mapOf o) f102_b_k14 m k s) (fun s => some s) (fun k => (l.take k).map (mvR o) ++ l.drop k) (fun m k hk => ?_) (fun m => ?_) l.length 0 n (by omega) (by omega)
  · simpa using this
  · show f102_b_l18 l (mapOf o) f102_b_k14 (m + 1) (k : Int) _ = _
    rw [f102_b_l18.eq_2]
    have hg : gi ((l.take k).map (mvR o) ++ l.drop k) (k : Int) = some l[k] := by rw [gi_nat, half_get hk rfl, List.getElem?_eq_getElem hk]
    rw [lt_len hk, hg]
    simp only [cond_true, Option.bind_some, f102_b_k43]
    rw [wr_succ (by omega)]
    cases h4 : (l[k].fKind == 4) with
    | true =>
      simp only [cond_true]
      rw [f102_round hc hk h4]
      have : (⟨l[k].fKind, ixI o l[k].fN⟩ : Val) = mvR o l[k] := by unfold mvR; rw [h4]; rfl
      rw [this]
      unfold setI
      rw [Int.toNat_natCast, half_set hk]
    | false =>
      simp only [cond_false]
      rw [half_same hk]
      unfold mvR; rw [h4]; rfl
  · show f102_b_l18 l (mapOf o) f102_b_k14 (m + 1) (l.length : Int) _ = _
    rw [f102_b_l18.eq_2, ge_len]
    rfl
theorem f62_eq {g : Graph} (hg : GraphOk g) (hz : Sized g) {n : Nat} (hn : 500 < n) : f62 n g = some (canG g, canAt g) := by
  obtain ⟨ho, h1, h2⟩ := orderR_spec hg
  have hN := hz.nd
  have hlen := ho.len
  unfold f62
  have h0 : f100 n [] [] [] [] [] g.fNodes g.fRoots g.fRoots = some (mapOf (meetL [] g.fRoots), meetL [] g.fRoots) :=
    f100_eq hN (o := []) (OrdOk.nil _) hg.rt hz.rt
  rw [h0]
  simp only [Option.bind_some]
  rw [f62_walk hg hz hn]
  unfold f62_k10
  rw [f102_eq h1 hz.rt hn]
  simp only [Option.bind_some]
  have h3 := loopT (N := (orderR g).length) (fun m k s => f62_l55 (orderR g) g n (mapOf (orderR g)) (g.fRoots.map (mvR (orderR g))) (f62_k51 n g (mapOf (orderR g)) (g.fRoots.map (mvR (orderR g)))) m k s)
    (fun s => f62_k51 n g (mapOf (orderR g)) (g.fRoots.map (mvR (orderR g))) s) (fun k => ((orderR g).take k).map (nodeR g (orderR g))) (fun m k hk => ?_) (fun m => ?_) (orderR g).length 0 n (by omega) (by omega)
  · refine h3.trans ?_
    rw [List.take_length]
    unfold f62_k51
    have h4 := loopT (N := g.fNodes.length) (fun m k s => f62_l102 g (mapOf (orderR g)) (f62_k98 ((orderR g).map (nodeR g (orderR g))) (g.fRoots.map (mvR (orderR g)))) m k s)
      (fun s => f62_k98 ((orderR g).map (nodeR g (orderR g))) (g.fRoots.map (mvR (orderR g))) s) (fun k => (List.range k).map fun i => ixI (orderR g) (i : Nat)) (fun m k hk => ?_) (fun m => ?_) g.fNodes.length 0 n (by omega) (by omega)
    · exact h4
    · show f62_l102 g _ _ (m + 1) (k : Int) _ = _
      rw [f62_l102.eq_2, lt_len hk]
      simp only [cond_true, f62_k127]
      rw [mget_isSome, wr_succ (by omega), List.range_succ, List.map_append]
      rw [app2_ok (by simp; omega), app2_ok (by simp; omega)]
      simp only [Option.bind_some, List.map_cons, List.map_nil]
      cases hc : (orderR g).contains (k : Int) with
      | true => rw [mget_ix (contains_iff.1 hc)]; rfl
      | false =>
        have : ixI (orderR g) (k : Int) = -1 := by unfold ixI; rw [hc]; rfl
        rw [this]; rfl
    · show f62_l102 g _ _ (m + 1) (g.fNodes.length : Int) _ = _
      rw [f62_l102.eq_2, ge_len]
      rfl
  · show f62_l55 _ _ _ _ _ _ (m + 1) (k : Int) _ = _
    have hyr := ho.rg _ (List.getElem_mem hk)
    rw [f62_l55.eq_2, lt_len hk, gi_get hk]
    simp only [cond_true, Option.bind_some]
    rw [gi_node hyr]
    simp only [Option.bind_some]
    rw [f102_b_eq (h2 _ (List.getElem_mem hk)) (by have := hz.vl _ (nodeAt_mem hyr).2; omega) hn]
    simp only [Option.bind_some]
    rw [app2_ok (by simp; omega), wr_succ (by omega)]
    simp only [Option.bind_some]
    rw [List.take_add_one, List.getElem?_eq_getElem hk, List.map_append]
    rfl
  · show f62_l55 _ _ _ _ _ _ (m + 1) ((orderR g).length : Int) _ = _
    rw [f62_l55.eq_2, ge_len]
    rfl
end Go.Proofs
end
section
set_option linter.unusedVariables false
set_option linter.unusedSimpArgs false
namespace Go.Proofs
open Go.Vm
section
variable {n : Nat} {A B : List Form} {L : List Rule} {g : Graph}
theorem GoodG.refs (hg : GoodG A g) {v : Val} (hv : valB v (len g.fNodes) = true) (hk : v.fKind = 4) : InN g.fNodes.length v.fN := by
  obtain ⟨vk, vn⟩ := v
  have hk : vk = 4 := hk
  subst hk
  obtain ⟨k, h1, h2⟩ := valB_ref hg.fr.1.1 hv
  have h1 : vn = k := h1
  show InN _ vn
  exact ⟨by omega, by omega⟩
theorem GoodG.gok (hg : GoodG A g) : GraphOk g := by
  refine ⟨fun y hy => ?_, fun x hx y hy => ?_⟩
  · obtain ⟨v, hv, rfl⟩ := List.mem_map.1 hy
    obtain ⟨h1, h2⟩ := List.mem_filter.1 hv
    exact hg.refs (hg.fr.2.2.2 v h1).1 (eq_of_beq h2)
  · obtain ⟨v, hv, rfl⟩ := List.mem_map.1 hy
    obtain ⟨h1, h2⟩ := List.mem_filter.1 hv
    exact hg.refs (hg.fr.2.2.1 x hx v h1) (eq_of_beq h2)
theorem GoodG.sized (hg : GoodG A g) : Sized g := ⟨hg.fr.1.1, hg.fr.1.2, hg.fr.2.1⟩
theorem f34_refl {l : List Val} (hl : l.length < n) (hn : n < 4611686018427387904) : f34 n l l = some true := by
  unfold f34
  rw [bne_len, beq_self_eq_true]
  exact scan1 l.length f34_k10 (f34_l14 l l f34_k10) (fun m k hk => by
    rw [f34_l14.eq_2, ltL l k hk, gi_nat]
    simp only [List.getElem?_eq_getElem hk, Option.bind_some, cond_true, Val.eqB_refl, Bool.not_true, cond_false])
    (fun m => by rw [f34_l14.eq_2, geL]; rfl) (by omega) hl
theorem f72_refl (hg : GraphSz n g) (hn : n < 4611686018427387904) : f72 n g g = some true := by
  unfold f72
  rw [f34_refl hg.2.1 hn]
  simp only [Option.bind_some, cond_true]
  have : f108 n g.fNodes g.fNodes = some true := by
    unfold f108
    rw [bne_len, beq_self_eq_true]
    exact scan1 g.fNodes.length f108_k10 (f108_l14 g.fNodes g.fNodes n f108_k10) (fun m k hk => by
      rw [f108_l14.eq_2, ltL _ k hk, gi_nat]
      simp only [List.getElem?_eq_getElem hk, Option.bind_some, cond_true]
      unfold f109 f109_k4
      rw [sEqF_refl, f34_refl (hg.2.2 _ (List.getElem_mem hk)) hn]
      rfl)
      (fun m => by rw [f108_l14.eq_2, geL]; rfl) (by have := hg.1; omega) hg.1
  rw [this]
  rfl
theorem GoodG.f74 (hg : GoodG A g) (hz : GraphSz n g) (hn : n < 4611686018427387904) : f74 n g = some 0 := by
  rw [f74_eq hz hn, (formedR_iff g).2 hg.fr]
theorem canG_sz (hg : GoodG A g) (h9 : 500 < n) : GraphSz n (canG g) := by
  have ho := (orderR_spec hg.gok).1
  have hlen := ho.len
  refine ⟨?_, ?_, fun x hx => ?_⟩
  · show ((orderR g).map _).length < n
    rw [List.length_map]; have := hg.fr.1.1; omega
  · show (g.fRoots.map _).length < n
    rw [List.length_map]; have := hg.fr.1.2; omega
  · have hx : x ∈ (orderR g).map (nodeR g (orderR g)) := hx
    obtain ⟨y, hy, rfl⟩ := List.mem_map.1 hx
    show ((nodeAt g y).fVals.map _).length < n
    rw [List.length_map]
    have := hg.fr.2.1 _ (nodeAt_mem (ho.rg y hy)).2
    omega
theorem f28_same {h : Graph} (hg : GoodG A g) (hh : GoodG A h) (zg : GraphSz n g) (zh : GraphSz n h) (h9 : 500 < n) (hn : n < 4611686018427387904) (he : canG h = canG g) : f28 n g h = some (true, 0) := by
  unfold f28
  rw [hg.f74 zg hn, hh.f74 zh hn]
  simp only [Option.bind_some]
  rw [f49_two (by omega)]
  simp only [Option.bind_some, show ((0 : Int) != 0) = false from rfl, cond_false]
  rw [f62_eq hg.gok hg.sized h9, f62_eq hh.gok hh.sized h9]
  simp only [Option.bind_some]
  rw [he, f72_refl (canG_sz hg h9) hn]
  rfl
end
end Go.Proofs
end
section
set_option linter.unusedVariables false
set_option linter.unusedSimpArgs false
namespace Go.Proofs
open Go.Vm
section
variable {n : Nat} {A B : List Form} {L : List Rule} {g : Graph}
theorem f32_gen (hA : FormSz n A) (hB : FormSz n B) (hL : L.length < n) (hg : GraphSz n g) (h9 : 100 < n) (hn : n < 1000000000) :
    ∃ e d, f33 n A B L = some e ∧ f18 n A g = some d ∧ ((e ≠ 0 ∧ f32 n A B L g = some (noG, ⟨0, noS⟩, e)) ∨ (e = 0 ∧ d ≠ 0 ∧ f32 n A B L g = some (noG, ⟨0, noS⟩, d)) ∨
      (e = 0 ∧ d = 0 ∧ f16 n A = some 0 ∧ f16 n B = some 0 ∧ rulesE A B L = 0 ∧ GoodG A g ∧ f32 n A B L g = some (convR A B L g))) := by
  obtain ⟨e, e1, e2, e3⟩ := f33_one hA hB hL h9 (by omega)
  obtain ⟨d, d1, d2⟩ := f18_one hA hg h9 (by omega)
  refine ⟨e, d, e1, d1, ?_⟩
  by_cases he : e = 0
  · subst he
    obtain ⟨a1, a2, a3⟩ := e2 rfl
    by_cases hd : d = 0
    · subst hd
      exact .inr (.inr ⟨rfl, rfl, a1, a2, a3, d2 rfl, f32_one hA hB hL hg h9 hn a3 a1 a2 (d2 rfl)⟩)
    · refine .inr (.inl ⟨rfl, hd, ?_⟩)
      obtain ⟨d', h1, _⟩ := f59_f19 a1 hA hg h9 (by omega)
      have hdd : d' = d := by
        unfold f18 at d1
        rw [a1] at d1
        have d1 : (f59 n A g).bind (fun r => some r) = some d := d1
        rw [h1] at d1
        exact Option.some.inj d1
      subst hdd
      have hb : (d' != 0) = true := by simpa using hd
      unfold f32
      rw [e1]
      simp only [Option.bind_some]
      rw [f49_one h9]
      simp only [Option.bind_some, show ((0 : Int) != 0) = false from rfl, cond_false]
      rw [h1]
      simp only [Option.bind_some, hb, cond_true]
      rfl
  · refine .inl ⟨he, ?_⟩
    have hb : (e != 0) = true := by simpa using he
    unfold f32
    rw [e1]
    simp only [Option.bind_some]
    rw [f49_one h9]
    simp only [Option.bind_some, hb, cond_true]
    rfl
theorem clash_at (hB : FormsOk B) (hr : rulesE A B L = 0) (hg : GoodG A g) {r : Refusal} (h : fin (nodeMk A B L g) g.fNodes.length 0 [] = .inr r) : 0 ≤ r.fNode ∧ r.fNode < len g.fNodes ∧ sEqF r.fCol noS = false := by
  obtain ⟨k, k1, k2, _⟩ := fin_stop _ _ _ h
  rw [Nat.zero_add] at k2
  have hx := List.getElem?_eq_getElem k1
  have hm := List.getElem_mem k1
  unfold nodeMk at k2
  rw [hx] at k2
  generalize g.fNodes[k] = x at *
  have k2 : (rowMk A B L x).elim (fun v => (.inl ⟨(ruleAt L x.fClass).fTo, v⟩ : Node ⊕ Refusal)) (fun s => .inr ⟨k, s⟩) = .inr r := k2
  cases hrow : rowMk A B L x with
  | inl v => rw [hrow] at k2; cases k2
  | inr s =>
    rw [hrow] at k2
    cases k2
    refine ⟨by show (0 : Int) ≤ (k : Int); omega, by show (k : Int) < len g.fNodes; unfold len; omega, ?_⟩
    show sEqF s noS = false
    obtain ⟨i, i1, i2, _⟩ := fin_stop _ _ _ hrow
    rw [Nat.zero_add] at i2
    have ro := ruleOk_of hr (hg.cl x hm)
    have hc := List.getElem?_eq_getElem i1
    have hgl : i < (ruleAt L x.fClass).fGives.length := by rw [ro.ln]; exact i1
    have hg2 := List.getElem?_eq_getElem hgl
    have hcm := List.getElem_mem i1
    unfold valMk at i2
    rw [hc, hg2] at i2
    have i2 : outV (madeB (ruleAt L x.fClass).fGives[i] (formAt A x.fClass).fCols x.fVals (formAt B (ruleAt L x.fClass).fTo).fCols[i]) (formAt B (ruleAt L x.fClass).fTo).fCols[i].fName = .inr s := i2
    unfold outV at i2
    have hs : (formAt B (ruleAt L x.fClass).fTo).fCols[i].fName = s := by
      revert i2
      cases (madeB (ruleAt L x.fClass).fGives[i] (formAt A x.fClass).fCols x.fVals (formAt B (ruleAt L x.fClass).fTo).fCols[i]).2 <;> intro i2
      · exact Sum.inr.inj i2
      · cases i2
    rw [← hs]
    have := (hB.col (formAt_gi ro.to).2.1 hcm).1
    cases he : sEqF (formAt B (ruleAt L x.fClass).fTo).fCols[i].fName noS with
    | false => rfl
    | true => rw [sEqF_eq he, classS_noS] at this; cases this
theorem f8_61 (hA : FormSz n A) (hB : FormSz n B) (hL : L.length < n) (hg : GraphSz n g) (h9 : 500 < n) (hn : n < 1000000000) (oA : FormsOk A) (oB : FormsOk B) (a1 : f16 n A = some 0) (a2 : f16 n B = some 0) (hr : rulesE A B L = 0) (gd : GoodG A g) {ns : List Node}
    (hf : fin (nodeMk A B L g) g.fNodes.length 0 [] = .inl ns) : f8_k61 n g A B L (convR A B L g) false = some true := by
  have hn' : n < 4611686018427387904 := by omega
  have hc1 : f26 n g = some (canG g, canAt g, 0) := by
    unfold f26
    rw [gd.f74 hg hn']
    simp only [Option.bind_some, show ((0 : Int) != 0) = false from rfl, cond_false]
    rw [f62_eq gd.gok gd.sized h9]
    rfl
  unfold f8_k61
  rw [hc1, f15_tt]
  simp only [Option.bind_some, cond_false, show ((0 : Int) != 0) = false from rfl]
  have ho := (orderR_spec gd.gok).1
  have hcl : (canG g).fNodes.length = (orderR g).length := by
    show ((orderR g).map _).length = _
    rw [List.length_map]
  cases hd : decide (len (canG g).fNodes < len g.fNodes) with
  | true => rfl
  | false =>
    simp only [cond_false]
    have hl : (orderR g).length = g.fNodes.length := by
      have h1 := of_decide_eq_false hd
      have h2 := ho.len
      unfold len at h1
      omega
    obtain ⟨rn, ro, rg⟩ := canon_renum ho hl (fun y hy v hv hk => gd.refs (gd.fr.2.2.1 _ (nodeAt_mem hy).2 v hv) hk) (fun v hv hk => gd.refs (gd.fr.2.2.2 v hv).1 hk)
    have gc := good_renum gd rn ro rg
    have hx := keepG oA oB hr gd hf
    obtain ⟨ms, hms, rr⟩ := conv_renum oA hr gd rn ro rg hf hx
    have hy := keepG oA oB hr gc hms
    have zc := canG_sz gd (n := n) h9
    have hz := ruleSz hA hB hL
    have z1 := convR_sz2 hz hg hr gd.cl
    have z2 := convR_sz2 hz zc hr gc.cl
    have e1 : convR A B L g = (⟨ns, g.fRoots⟩, ⟨0, noS⟩, 0) := by unfold convR; rw [hf]; rfl
    have e2 : convR A B L (canG g) = (⟨ms, (canG g).fRoots⟩, ⟨0, noS⟩, 0) := by unfold convR; rw [hms]; rfl
    rw [f32_one hA hB hL zc (by omega) hn hr a1 a2 gc]
    simp only [Option.bind_some]
    rw [e1] at z1 ⊢
    rw [e2] at z2 ⊢
    simp only []
    rw [f28_same hx hy z1 z2 h9 hn' (canG_renum rr)]
    rfl
theorem f8_true (hA : FormSz n A) (hB : FormSz n B) (hL : L.length < n) (hg : GraphSz n g) (h9 : 500 < n) (hn : n < 1000000000) : f8 n A B L g = some true := by
  have hn' : n < 4611686018427387904 := by omega
  have h1 : f8_k7 n A B L g true = some true := by unfold f8_k7; rw [f15_tt]; rfl
  have h5 : ∀ c, f8_k7 n A B L g c = some true := fun c => by
    cases c
    · obtain ⟨e, d, e1, d1, hc⟩ := f32_gen hA hB hL hg (by omega) hn
      have bad : ∀ x : Int, x ≠ 0 → f8_k28 (noG, ⟨0, noS⟩, x) g n B A L true = some true := fun x hx => by
        have hb : (x != 0) = true := by simpa using hx
        unfold f8_k28
        rw [f15_tt]
        simp only [Option.bind_some, cond_true, hb]
        rw [show (Refusal.mk 0 (ByteArray.mk #[])) = ⟨0, noS⟩ from rfl, Refusal.eqB_refl]
        rfl
      unfold f8_k7
      rcases hc with ⟨he, h⟩ | ⟨rfl, hd, h⟩ | ⟨rfl, rfl, a1, a2, hr, gd, h⟩
      · have hb : (e != 0) = true := by simpa using he
        rw [h, e1]
        simp only [Option.bind_some, cond_false, hb, cond_true]
        exact bad e he
      · have hb : (d != 0) = true := by simpa using hd
        rw [h, e1, d1]
        simp only [Option.bind_some, cond_false, hb, show ((0 : Int) != 0) = false from rfl]
        exact bad d hd
      · rw [h, e1, d1]
        simp only [Option.bind_some, cond_false, show ((0 : Int) != 0) = false from rfl]
        have oA := formsOk_of hA (by omega) hn' a1
        have oB := formsOk_of hB (by omega) hn' a2
        cases hf : fin (nodeMk A B L g) g.fNodes.length 0 [] with
        | inr r =>
          obtain ⟨c1, c2, c3⟩ := clash_at oB hr gd hf
          have e2 : convR A B L g = (noG, r, 10) := by unfold convR; rw [hf]; rfl
          rw [e2]
          unfold f8_k28
          rw [f15_tt]
          simp only [Option.bind_some, cond_false, show ((10 : Int) == 10) = true from rfl, cond_true]
          rw [decide_eq_true c1, decide_eq_true c2, show ByteArray.mk #[] = noS from rfl, c3]
          rfl
        | inl ns =>
          have k61 := f8_61 hA hB hL hg h9 hn oA oB a1 a2 hr gd hf
          have hx := keepG oA oB hr gd hf
          have z1 := convR_sz2 (ruleSz hA hB hL) hg hr gd.cl
          have e2 : convR A B L g = (⟨ns, g.fRoots⟩, ⟨0, noS⟩, 0) := by unfold convR; rw [hf]; rfl
          rw [e2] at z1 k61 ⊢
          have h18 : f18 n B ⟨ns, g.fRoots⟩ = some 0 := by
            unfold f18
            rw [a2]
            simp only [Option.bind_some, show ((0 : Int) != 0) = false from rfl, cond_false]
            rw [(f59_good hB z1 hn').2 hx]
            rfl
          have hlen : ns.length = g.fNodes.length := by
            have := fin_len _ _ _ _ hf
            simpa using this
          unfold f8_k28
          rw [h18]
          simp only [Option.bind_some, cond_false, show ((0 : Int) == 10) = false from rfl, show ((0 : Int) != 0) = false from rfl]
          rw [bne_len, hlen, beq_self_eq_true, f34_refl hg.2.1 hn']
          simp only [Option.bind_some, Bool.not_true, cond_false]
          rw [show (Refusal.mk 0 (ByteArray.mk #[])) = ⟨0, noS⟩ from rfl, Refusal.eqB_refl]
          exact k61
    · exact h1
  obtain ⟨a, ha⟩ := f13_tot hA hn'
  obtain ⟨b, hb⟩ := f13_tot hB hn'
  obtain ⟨c, hc⟩ := f31_tot hL hn'
  obtain ⟨d, hd⟩ := f14_tot hg hn'
  unfold f8
  rw [ha, hb, hc, hd]
  cases a <;> cases b <;> cases c <;> simp [h5]
end
theorem packAllOrNothingplain {A B : List Form} {L : List Rule} {g : Graph} (hA : A.length ≤ 1048576 ∧ ∀ y ∈ A, Form.ok 1048576 y) (hB : B.length ≤ 1048576 ∧ ∀ y ∈ B, Form.ok 1048576 y) (hL : L.length ≤ 1048576 ∧ ∀ y ∈ L, Rule.ok 1048576 y) (hg : Graph.ok 1048576 g) : ∃ n, f8 n A B L g = some true :=
  ⟨4194304, f8_true (formSz_ok2 hA (by decide)) (formSz_ok2 hB (by decide)) (by omega) (graphSz_ok2 hg (by decide)) (by decide) (by decide)⟩
end Go.Proofs
end
