/- Texts of this claim, one behind the other. -/
import Derived.Test.YtbdgamoicleieaaGreatPhe
import Derived.ChangeFn
import Derived.Carry
import Derived.ChangeSame
import Derived.RowKit
import Derived.OpenShut
import Derived.ChangeShapes
import Derived.KernelRfl
set_option linter.unusedVariables false
set_option linter.unusedSimpArgs false
set_option linter.unnecessarySimpa false
section
set_option linter.unusedVariables false
namespace Go.Proofs
open Go.Vm
def fst0 (E : Nat → Int) : Nat → Nat → Int
  | 0, _ => 0
  | d + 1, k => bif E k == 0 then fst0 E d (k + 1) else E k
theorem fst0_zero {E : Nat → Int} : ∀ (d k : Nat), fst0 E d k = 0 → ∀ j, k ≤ j → j < k + d → E j = 0
  | 0, k, h => fun j h1 h2 => by omega
  | d + 1, k, h => by
    unfold fst0 at h
    cases he : E k == 0 with
    | false =>
      rw [he] at h
      have : E k = 0 := h
      rw [this] at he; cases he
    | true =>
      rw [he] at h
      intro j h1 h2
      by_cases hj : j = k
      · subst hj; exact eq_of_beq he
      · exact fst0_zero d (k + 1) h j (by omega) (by omega)
theorem goN_fst {E : Nat → Int} (K : Option Int) : ∀ (d k : Nat), goN (fun k acc => bif E k == 0 then acc else some (E k)) K d k = bif fst0 E d k == 0 then K else some (fst0 E d k)
  | 0, k => rfl
  | d + 1, k => by
    show (bif E k == 0 then goN _ K d (k + 1) else some (E k)) = _
    rw [goN_fst K d (k + 1), show fst0 E (d + 1) k = bif E k == 0 then fst0 E d (k + 1) else E k from rfl]
    cases he : E k == 0 with
    | true => rfl
    | false => simp only [cond_false, he]
theorem scanF (N : Nat) (K : Option Int) (E : Nat → Int) (L : Nat → Int → Option Int) (hL : ∀ m (k : Nat), k < N → L (m + 1) k = bif E k == 0 then L m (wr .i64 (k + 1)) else some (E k)) (hK : ∀ m, L (m + 1) N = K) (hl : N < 4611686018427387904) {n : Nat} (hn : N < n) :
    L n 0 = bif fst0 E N 0 == 0 then K else some (fst0 E N 0) :=
  (scanN N K (fun k acc => bif E k == 0 then acc else some (E k)) L hL hK hl N 0 n (by omega) hn).trans (goN_fst K N 0)
def formAt (l : List Form) (s : ByteArray) : Form := (l.find? fun x => sEqF x.fName s).getD ⟨noS, []⟩
def E1 (A B : List Form) (L : List Rule) (k : Nat) : Int := match L[k]? with
  | none => 0
  | some r => bif decide (formIx A r.fClass < 0) then 4 else bif decide (formIx B r.fTo < 0) then 4 else bif hasRule (L.take k) r.fClass then 6 else 0
def E2 (A : List Form) (L : List Rule) (k : Nat) : Int := match A[k]? with
  | none => 0
  | some f => bif hasRule L f.fName then 0 else 5
def E4 (L : List Rule) (r : Rule) (f t : Form) (k : Nat) : Int := match r.fGives[k]?, t.fCols[k]? with
  | some g, some c => giveB L g f.fCols c
  | _, _ => 0
def E3 (A B : List Form) (L : List Rule) (k : Nat) : Int := match L[k]? with
  | none => 0
  | some r => bif r.fGives.length == (formAt B r.fTo).fCols.length then fst0 (E4 L r (formAt A r.fClass) (formAt B r.fTo)) r.fGives.length 0 else 2
def rulesE (A B : List Form) (L : List Rule) : Int :=
  bif decide (len L > 24) then 3 else bif fst0 (E1 A B L) L.length 0 == 0 then (bif fst0 (E2 A L) A.length 0 == 0 then fst0 (E3 A B L) L.length 0 else fst0 (E2 A L) A.length 0) else fst0 (E1 A B L) L.length 0
theorem formAt_gi {l : List Form} {s : ByteArray} (h : ¬ formIx l s < 0) : gi l (formIx l s) = some (formAt l s) ∧ formAt l s ∈ l ∧ sEqF (formAt l s).fName s = true := by
  unfold formIx at h ⊢
  obtain ⟨x, h1, h2, h3, h4⟩ := ix_gi (p := fun x : Form => sEqF x.fName s) (l := l) (by omega)
  have e : formAt l s = x := by unfold formAt; rw [h1]; rfl
  rw [e]
  exact ⟨h2, h3, h4⟩
theorem E1_zero {A B : List Form} {L : List Rule} (h : fst0 (E1 A B L) L.length 0 = 0) {k : Nat} (hk : k < L.length) :
    ¬ formIx A L[k].fClass < 0 ∧ ¬ formIx B L[k].fTo < 0 ∧ hasRule (L.take k) L[k].fClass = false := by
  have := fst0_zero L.length 0 h k (Nat.zero_le _) (by omega)
  unfold E1 at this
  rw [List.getElem?_eq_getElem hk] at this
  have e3 : ∀ a b c : Bool, (bif a then (4 : Int) else bif b then 4 else bif c then 6 else 0) = 0 → a = false ∧ b = false ∧ c = false := by decide
  obtain ⟨h1, h2, h3⟩ := e3 _ _ _ this
  exact ⟨of_decide_eq_false h1, of_decide_eq_false h2, h3⟩
theorem lt_len {α : Type} (l : List α) (k : Nat) (hk : k < l.length) : decide ((k : Int) < len l) = true := by simp [len]; omega
theorem ge_len {α : Type} (l : List α) : decide ((l.length : Int) < len l) = false := by simp [len]
theorem bne_len {α β : Type} (a : List α) (b : List β) : (len a != len b) = !(a.length == b.length) := by
  show (!(((a.length : Nat) : Int) == ((b.length : Nat) : Int))) = _
  congr 1
  rw [Bool.eq_iff_iff]
  simp only [beq_iff_eq]
  omega
structure RuleSz (n : Nat) (A B : List Form) (L : List Rule) : Prop where
  a : A.length < n
  b : B.length < n
  r : L.length < n
  ac : ∀ f ∈ A, f.fCols.length < n
  bc : ∀ f ∈ B, f.fCols.length < n
section
variable {n : Nat} {A B : List Form} {L : List Rule}
theorem f80_eq (hz : RuleSz n A B L) (hn : n < 4611686018427387904) : f80 n A B L = some (rulesE A B L) := by
  have hA := hz.a; have hB := hz.b; have hL := hz.r
  unfold f80 rulesE
  cases hd : decide (len L > 24) with
  | true => rfl
  | false =>
  simp only [cond_false]
  have l1 := scanF L.length (f80_k10 n A L B) (E1 A B L) (f80_l14 L n A B (f80_k10 n A L B)) (fun m k hk => by
      rw [f80_l14.eq_2, lt_len L k hk, gi_nat]
      unfold E1 f80_k51
      simp only [List.getElem?_eq_getElem hk, Option.bind_some, cond_true]
      rw [f52_eq hA (by omega), f52_eq hB (by omega), sli_take L k (by omega)]
      simp only [Option.bind_some]
      rw [f78_eq (by rw [List.length_take]; omega) (by rw [List.length_take]; omega)]
      simp only [Option.bind_some]
      cases decide (formIx A L[k].fClass < 0) <;> cases decide (formIx B L[k].fTo < 0) <;> cases hasRule (L.take k) L[k].fClass <;> rfl)
    (fun m => by rw [f80_l14.eq_2, ge_len]; rfl) (by omega) (n := n) hL
  rw [l1]
  cases h1 : fst0 (E1 A B L) L.length 0 == 0 with
  | false => rfl
  | true =>
  simp only [cond_true]
  have z1 := eq_of_beq h1
  have l2 := scanF A.length (f80_k68 n L A B) (E2 A L) (f80_l72 A n L (f80_k68 n L A B)) (fun m k hk => by
      rw [f80_l72.eq_2, lt_len A k hk, gi_nat]
      unfold E2
      simp only [List.getElem?_eq_getElem hk, Option.bind_some, cond_true]
      rw [f78_eq hL (by omega)]
      simp only [Option.bind_some]
      cases hasRule L A[k].fName <;> rfl)
    (fun m => by rw [f80_l72.eq_2, ge_len]; rfl) (by omega) (n := n) hA
  unfold f80_k10
  rw [l2]
  cases h2 : fst0 (E2 A L) A.length 0 == 0 with
  | false => rfl
  | true =>
  simp only [cond_true]
  have l3 := scanF L.length f80_k102 (E3 A B L) (f80_l106 L n A B f80_k102) (fun m k hk => by
      obtain ⟨i1, i2, _⟩ := E1_zero z1 hk
      obtain ⟨a1, a2, _⟩ := formAt_gi i1
      obtain ⟨b1, b2, _⟩ := formAt_gi i2
      rw [f80_l106.eq_2, lt_len L k hk, gi_nat]
      unfold E3
      simp only [List.getElem?_eq_getElem hk, Option.bind_some, cond_true]
      rw [f52_eq hA (by omega), f52_eq hB (by omega)]
      simp only [Option.bind_some]
      rw [a1, b1]
      simp only [Option.bind_some]
      rw [bne_len]
      generalize formAt A L[k].fClass = f at *
      generalize formAt B L[k].fTo = t at *
      cases hl : L[k].fGives.length == t.fCols.length with
      | false => rfl
      | true =>
      have hl' := eq_of_beq hl
      have hac := hz.ac f a2
      have hbc := hz.bc t b2
      simp only [Bool.not_true, cond_false, cond_true]
      generalize hG : f80_l106 L n A B f80_k102 m (wr .i64 ((k : Int) + 1)) = G
      have l4 := scanF L[k].fGives.length (f80_k171 k (f80_l106 L n A B f80_k102 m)) (E4 L L[k] f t) (f80_l194 L[k] t n L f (f80_k171 k (f80_l106 L n A B f80_k102 m))) (fun m' j hj => by
          rw [f80_l194.eq_2, lt_len _ j hj, gi_nat, gi_nat]
          unfold E4
          simp only [List.getElem?_eq_getElem hj, List.getElem?_eq_getElem (show j < t.fCols.length by omega), Option.bind_some, cond_true]
          rw [f116_eq hL hac hn]
          simp only [Option.bind_some, bne]
          cases giveB L L[k].fGives[j] f.fCols t.fCols[j] == 0 <;> rfl)
        (fun m' => by rw [f80_l194.eq_2, ge_len]; rfl) (by omega) (n := n) (by omega)
      rw [l4]
      unfold f80_k171
      rw [hG])
    (fun m => by rw [f80_l106.eq_2, ge_len]; rfl) (by omega) (n := n) hL
  unfold f80_k68
  rw [l3]
  unfold f80_k102
  cases h3 : fst0 (E3 A B L) L.length 0 == 0 with
  | false => rfl
  | true => rw [eq_of_beq h3]; rfl
end
end Go.Proofs
end
section
set_option linter.unusedVariables false
namespace Go.Proofs
open Go.Vm
theorem classB_ANY : classB ANY = false := by decide
theorem classB_noS : classB noS = false := by decide
theorem FormsOk.name {l : List Form} (h : FormsOk l) {s : ByteArray} (hi : ¬ formIx l s < 0) : classB s = true := by
  obtain ⟨_, h2, h3⟩ := formAt_gi hi
  rw [← sEqF_eq h3]
  exact h.nm _ h2
theorem FormsOk.colOk {l : List Form} (h : FormsOk l) {f : Form} (hf : f ∈ l) {c : Col} (hc : c ∈ f.fCols) : ColOk c := by
  obtain ⟨_, h2, _⟩ := h.col hf hc
  refine ⟨h2, fun h3 h4 => ?_⟩
  have := h.rf f hf c hc
  rw [h3, h4] at this
  cases h5 : decide (formIx l c.fClass < 0) with
  | true => rw [h5] at this; cases this
  | false =>
    have h6 := h.name (of_decide_eq_false h5)
    cases h7 : sEqF noS c.fClass with
    | false => rfl
    | true =>
      rw [← sEqF_eq h7, classB_noS] at h6
      cases h6
section
variable {n : Nat} {A B : List Form} {L : List Rule}
theorem noAny_of (hA : FormsOk A) (h : fst0 (E1 A B L) L.length 0 = 0) : NoAny L := fun r hr => by
  obtain ⟨k, hk, rfl⟩ := List.getElem_of_mem hr
  obtain ⟨h1, _, _⟩ := E1_zero h hk
  have h2 := hA.name h1
  cases h3 : sEqF L[k].fClass ANY with
  | false => rfl
  | true =>
    rw [sEqF_eq h3, classB_ANY] at h2
    cases h2
theorem f214_eq (hz : RuleSz n A B L) (hoA : FormsOk A) (hoB : FormsOk B) (hn : n < 4611686018427387904) : f214 n A B L = some (rulesE A B L) := by
  have hA := hz.a; have hB := hz.b; have hL := hz.r
  unfold f214 rulesE
  cases hd : decide (len L > 24) with
  | true => rfl
  | false =>
  simp only [cond_false]
  have l1 := scanF L.length (f214_k10 n A L B) (E1 A B L) (f214_l13 L n A B (f214_k10 n A L B)) (fun m k hk => by
      rw [f214_l13.eq_2, lt_len L k hk, gi_nat]
      unfold E1 f214_k49
      simp only [List.getElem?_eq_getElem hk, Option.bind_some, cond_true, gi_nat]
      rw [f55_eq hA (by omega), f55_eq hB (by omega), f212_eq hL (by omega)]
      simp only [Option.bind_some]
      rw [ahead (ruleP L[k].fClass) L k hk (sEqF_refl _), ixOf_ge]
      unfold hasRule
      cases decide (formIx A L[k].fClass < 0) <;> cases decide (formIx B L[k].fTo < 0) <;> cases (L.take k).any (ruleP L[k].fClass) <;> rfl)
    (fun m => by rw [f214_l13.eq_2, ge_len]; rfl) (by omega) (n := n) hL
  rw [l1]
  cases h1 : fst0 (E1 A B L) L.length 0 == 0 with
  | false => rfl
  | true =>
  simp only [cond_true]
  have z1 := eq_of_beq h1
  have hna := noAny_of hoA z1
  have l2 := scanF A.length (f214_k69 n L A B) (E2 A L) (f214_l72 A n L (f214_k69 n L A B)) (fun m k hk => by
      rw [f214_l72.eq_2, lt_len A k hk, gi_nat]
      unfold E2
      simp only [List.getElem?_eq_getElem hk, Option.bind_some, cond_true]
      rw [f212_eq hL (by omega)]
      simp only [Option.bind_some]
      rw [ix_neg]
      unfold hasRule
      cases L.any (ruleP A[k].fName) <;> rfl)
    (fun m => by rw [f214_l72.eq_2, ge_len]; rfl) (by omega) (n := n) hA
  unfold f214_k10
  rw [l2]
  cases h2 : fst0 (E2 A L) A.length 0 == 0 with
  | false => rfl
  | true =>
  simp only [cond_true]
  have l3 := scanF L.length f214_k100 (E3 A B L) (f214_l103 L n A B f214_k100) (fun m k hk => by
      obtain ⟨i1, i2, _⟩ := E1_zero z1 hk
      obtain ⟨a1, a2, _⟩ := formAt_gi i1
      obtain ⟨b1, b2, _⟩ := formAt_gi i2
      rw [f214_l103.eq_2, lt_len L k hk, gi_nat]
      unfold E3
      simp only [List.getElem?_eq_getElem hk, Option.bind_some, cond_true]
      rw [f55_eq hA (by omega), f55_eq hB (by omega)]
      simp only [Option.bind_some]
      rw [a1, b1]
      simp only [Option.bind_some]
      rw [bne_len]
      generalize formAt A L[k].fClass = f at *
      generalize formAt B L[k].fTo = t at *
      cases hl : L[k].fGives.length == t.fCols.length with
      | false => rfl
      | true =>
      have hl' := eq_of_beq hl
      have hac := hz.ac f a2
      have hbc := hz.bc t b2
      simp only [Bool.not_true, cond_false, cond_true]
      generalize hG : f214_l103 L n A B f214_k100 m (wr .i64 ((k : Int) + 1)) = G
      have l4 := scanF t.fCols.length (f214_k177 k (f214_l103 L n A B f214_k100 m)) (E4 L L[k] f t) (f214_l203 t L k n f (f214_k177 k (f214_l103 L n A B f214_k100 m))) (fun m' j hj => by
          rw [f214_l203.eq_2, lt_len _ j hj, gi_nat, gi_nat]
          unfold E4
          simp only [List.getElem?_eq_getElem hj, List.getElem?_eq_getElem hk, List.getElem?_eq_getElem (show j < L[k].fGives.length by omega), Option.bind_some, cond_true, gi_nat]
          rw [f219_eq hL hac hn hna (hoB.colOk b2 (List.getElem_mem hj))]
          simp only [Option.bind_some, bne]
          cases giveB L L[k].fGives[j] f.fCols t.fCols[j] == 0 <;> rfl)
        (fun m' => by rw [f214_l203.eq_2, ge_len]; rfl) (by omega) (n := n) (by omega)
      rw [l4, hl']
      unfold f214_k177
      rw [hG])
    (fun m => by rw [f214_l103.eq_2, ge_len]; rfl) (by omega) (n := n) hL
  unfold f214_k69
  rw [l3]
  unfold f214_k100
  cases h3 : fst0 (E3 A B L) L.length 0 == 0 with
  | false => rfl
  | true => rw [eq_of_beq h3]; rfl
end
end Go.Proofs
end
section
set_option linter.unusedVariables false
namespace Go.Proofs
open Go.Vm
theorem f49_two {n : Nat} (h : 100 < n) (a b : Int) : f49 n [a, b] = some (bif a != 0 then a else b) := by
  obtain ⟨m, rfl⟩ : ∃ m, n = m + 3 := ⟨n - 3, by omega⟩
  show (bif a != 0 then some a else bif b != 0 then some b else f49_k3) = _
  unfold f49_k3
  cases ha : a != 0 with
  | true => rfl
  | false =>
    cases hb : b != 0 with
    | true => rfl
    | false =>
      have : b = 0 := by simpa using hb
      rw [this]; rfl
theorem ruleSz {n : Nat} {A B : List Form} {L : List Rule} (hA : FormSz n A) (hB : FormSz n B) (hL : L.length < n) : RuleSz n A B L :=
  ⟨hA.1, hB.1, hL, fun f hf => (hA.2 f hf).2.1, fun f hf => (hB.2 f hf).2.1⟩
end Go.Proofs
end
section
set_option linter.unusedVariables false
namespace Go.Proofs
open Go.Vm
section
variable {α τ ρ : Type}
def fin (mk : Nat → α ⊕ τ) : Nat → Nat → List α → List α ⊕ τ
  | 0, k, s => .inl s
  | d + 1, k, s => match mk k with
    | .inl x => fin mk d (k + 1) (s ++ [x])
    | .inr t => .inr t
theorem fin_len {mk : Nat → α ⊕ τ} : ∀ (d k : Nat) (s r : List α), fin mk d k s = .inl r → r.length = s.length + d
  | 0, k, s, r, h => by cases h; rfl
  | d + 1, k, s, r, h => by
    have h1 : (match mk k with | .inl x => fin mk d (k + 1) (s ++ [x]) | .inr t => .inr t) = Sum.inl r := h
    cases hm : mk k with
    | inl x =>
      rw [hm] at h1
      have := fin_len d (k + 1) (s ++ [x]) r h1
      rw [this, List.length_append]; simp; omega
    | inr t => rw [hm] at h1; cases h1
theorem fin_mem {mk : Nat → α ⊕ τ} {P : α → Prop} (hP : ∀ k x, mk k = .inl x → P x) : ∀ (d k : Nat) (s r : List α), fin mk d k s = .inl r → (∀ x ∈ s, P x) → ∀ x ∈ r, P x
  | 0, k, s, r, h, hs => by cases h; exact hs
  | d + 1, k, s, r, h, hs => by
    have h1 : (match mk k with | .inl x => fin mk d (k + 1) (s ++ [x]) | .inr t => .inr t) = Sum.inl r := h
    cases hm : mk k with
    | inl x =>
      rw [hm] at h1
      refine fin_mem hP d (k + 1) (s ++ [x]) r h1 (fun y hy => ?_)
      rcases List.mem_append.1 hy with h2 | h2
      · exact hs y h2
      · rw [List.mem_singleton.1 h2]; exact hP k x hm
    | inr t => rw [hm] at h1; cases h1
theorem scanE1 (N : Nat) (mk : Nat → α ⊕ τ) (K : List α → Option ρ) (G : τ → Option ρ) (L : Nat → Int → List α → Option ρ)
    (hL : ∀ m (k : Nat) s, k < N → s.length = k → L (m + 1) k s = (mk k).elim (fun x => L m (wr .i64 (k + 1)) (s ++ [x])) G)
    (hK : ∀ m s, s.length = N → L (m + 1) N s = K s) (hl : N < 4611686018427387904) :
    ∀ (d k m : Nat) (s : List α), d + k = N → d < m → s.length = k → L m k s = (fin mk d k s).elim K G
  | 0, k, m, s, hk, hm, hs => by
    obtain ⟨m, rfl⟩ := Nat.exists_eq_succ_of_ne_zero (by omega : m ≠ 0)
    have : k = N := by omega
    subst this
    exact hK m s hs
  | d + 1, k, m, s, hk, hm, hs => by
    obtain ⟨m, rfl⟩ := Nat.exists_eq_succ_of_ne_zero (by omega : m ≠ 0)
    rw [hL m k s (by omega) hs, wr_id (by omega) (by omega)]
    show _ = Sum.elim K G (match mk k with | .inl x => fin mk d (k + 1) (s ++ [x]) | .inr t => .inr t)
    cases hm' : mk k with
    | inl x =>
      have := scanE1 N mk K G L hL hK hl d (k + 1) m (s ++ [x]) (by omega) (by omega) (by simp [hs])
      push_cast at this
      exact this
    | inr t => rfl
theorem scanE (N : Nat) (mk : Nat → α ⊕ τ) (K : List α → Option ρ) (G : τ → Option ρ) (L : Nat → Int → List α → Option ρ)
    (hL : ∀ m (k : Nat) s, k < N → s.length = k → L (m + 1) k s = (mk k).elim (fun x => L m (wr .i64 (k + 1)) (s ++ [x])) G)
    (hK : ∀ m s, s.length = N → L (m + 1) N s = K s) (hl : N < 4611686018427387904) {n : Nat} (hn : N < n) :
    L n 0 [] = (fin mk N 0 []).elim K G := scanE1 N mk K G L hL hK hl N 0 n [] (by omega) hn rfl
end
theorem giveB_src {L : List Rule} {g : Give} {cols : List Col} {to : Col} (h : giveB L g cols to = 0) : inR g.fHow 1 7 = true ∧ (inR g.fHow 1 5 = true → ¬ colIx cols g.fFrom < 0) := by
  unfold giveB at h
  have h3 : ∀ a b c : Bool, (bif a then (4 : Int) else bif b then 1 else bif c then 0 else 8) = 0 → a = false ∧ b = false := by decide
  obtain ⟨h4, h5⟩ := h3 _ _ _ h
  refine ⟨?_, fun h6 => ?_⟩
  · rw [argBad_eq] at h5
    revert h5
    cases inR g.fHow 1 7 <;> intro h5 <;> first | rfl | cases h5
  · rw [h6] at h4
    exact of_decide_eq_false h4
section
variable {n : Nat} {L : List Rule} {g : Give} {f : Form} {x : Node} {c : Col}
end
end Go.Proofs
end
section
set_option linter.unusedVariables false
namespace Go.Proofs
open Go.Vm
structure RuleOk (A B : List Form) (L : List Rule) (c : ByteArray) : Prop where
  at_ : gi L (ixOf (ruleP c) L 0) = some (ruleAt L c)
  to : ¬ formIx B (ruleAt L c).fTo < 0
  ln : (ruleAt L c).fGives.length = (formAt B (ruleAt L c).fTo).fCols.length
  gv : ∀ (j : Nat) (h1 : j < (ruleAt L c).fGives.length) (h2 : j < (formAt B (ruleAt L c).fTo).fCols.length), giveB L (ruleAt L c).fGives[j] (formAt A c).fCols (formAt B (ruleAt L c).fTo).fCols[j] = 0
theorem rulesE_zero {A B : List Form} {L : List Rule} (h : rulesE A B L = 0) : fst0 (E1 A B L) L.length 0 = 0 ∧ fst0 (E2 A L) A.length 0 = 0 ∧ fst0 (E3 A B L) L.length 0 = 0 := by
  unfold rulesE at h
  cases hd : decide (len L > 24) with
  | true => rw [hd] at h; cases h
  | false =>
    rw [hd] at h
    cases h1 : fst0 (E1 A B L) L.length 0 == 0 with
    | false => rw [h1] at h; have h' : fst0 (E1 A B L) L.length 0 = 0 := h; rw [h'] at h1; cases h1
    | true =>
      rw [h1] at h
      cases h2 : fst0 (E2 A L) A.length 0 == 0 with
      | false => rw [h2] at h; have h' : fst0 (E2 A L) A.length 0 = 0 := h; rw [h'] at h2; cases h2
      | true =>
        rw [h2] at h
        exact ⟨eq_of_beq h1, eq_of_beq h2, h⟩
theorem ruleOk_of {A B : List Form} {L : List Rule} (h : rulesE A B L = 0) {c : ByteArray} (hc : ¬ formIx A c < 0) : RuleOk A B L c := by
  obtain ⟨z1, z2, z3⟩ := rulesE_zero h
  obtain ⟨_, m1, m2⟩ := formAt_gi hc
  have hr : hasRule L c = true := by
    obtain ⟨i, hi, he⟩ := List.getElem_of_mem m1
    have := fst0_zero A.length 0 z2 i (Nat.zero_le _) (by omega)
    unfold E2 at this
    rw [List.getElem?_eq_getElem hi] at this
    have this : (bif hasRule L A[i].fName then (0 : Int) else 5) = 0 := this
    rw [he, sEqF_eq m2] at this
    revert this
    cases hasRule L c <;> intro h <;> first | rfl | cases h
  rcases ix_find (ruleP c) L 0 with ⟨h1, h2, h3⟩ | ⟨j, r, h1, h2, h3, h4, h5⟩
  · unfold hasRule at hr; rw [h2] at hr; cases hr
  · have e : ruleAt L c = r := by unfold ruleAt; rw [h1]; rfl
    obtain ⟨hj, hj'⟩ := List.getElem?_eq_some_iff.1 h4
    obtain ⟨i1, i2, _⟩ := E1_zero z1 hj
    have e3 := fst0_zero L.length 0 z3 j (Nat.zero_le _) (by omega)
    unfold E3 at e3
    rw [h4] at e3
    rw [hj'] at i1 i2
    have hcl : r.fClass = c := sEqF_eq h5
    have e3 : (bif r.fGives.length == (formAt B r.fTo).fCols.length then fst0 (E4 L r (formAt A r.fClass) (formAt B r.fTo)) r.fGives.length 0 else 2) = 0 := e3
    rw [hcl] at e3
    cases hl : r.fGives.length == (formAt B r.fTo).fCols.length with
    | false => rw [hl] at e3; cases e3
    | true =>
      rw [hl] at e3
      have hl' := eq_of_beq hl
      refine ⟨?_, ?_, ?_, ?_⟩
      · rw [e, h3, Nat.zero_add, gi_nat, h4]
      · rw [e]; exact i2
      · rw [e]; exact hl'
      · rw [e]
        intro j h1 h2
        have := fst0_zero r.fGives.length 0 e3 j (Nat.zero_le _) (by omega)
        unfold E4 at this
        rw [List.getElem?_eq_getElem h1, List.getElem?_eq_getElem h2] at this
        exact this
section
variable {n : Nat} {A B : List Form} {L : List Rule} {g : Graph}
end
end Go.Proofs
end
section
set_option linter.unusedVariables false
namespace Go.Proofs
open Go.Vm
theorem beq_sEqF (a b : ByteArray) : (a == b) = sEqF a b := by
  show (a.data == b.data) = (a.data.toList == b.data.toList)
  rw [Bool.eq_iff_iff, beq_iff_eq, beq_iff_eq, Array.toList_inj]
theorem mget_mset (s a : ByteArray) (v : Bool) : ∀ m : List (ByteArray × Bool), mget s (mset a v m) = bif sEqF s a then some v else mget s m
  | [] => by
    show (bif s == a then some v else none) = _
    rw [beq_sEqF]; rfl
  | p :: m => by
    show mget s (bif a == p.1 then (a, v) :: m else p :: mset a v m) = bif sEqF s a then some v else (bif s == p.1 then some p.2 else mget s m)
    rw [beq_sEqF, beq_sEqF]
    cases h : sEqF a p.1 with
    | true =>
      rw [← sEqF_eq h]
      show (bif s == a then some v else mget s m) = _
      rw [beq_sEqF]
      cases sEqF s a <;> rfl
    | false =>
      show (bif s == p.1 then some p.2 else mget s (mset a v m)) = _
      rw [beq_sEqF, mget_mset s a v m]
      cases h1 : sEqF s p.1 with
      | false => rfl
      | true =>
        cases h2 : sEqF s a with
        | false => rfl
        | true =>
          rw [← sEqF_eq h1, ← sEqF_eq h2, sEqF_refl] at h
          cases h
def askM (gs : List Give) : List (ByteArray × Bool) := gs.foldl (fun m g => mset g.fFrom true m) []
theorem askM_get (s : ByteArray) (gs : List Give) : (mget s (askM gs)).getD false = gs.any fun g => sEqF s g.fFrom := by
  have : ∀ (gs : List Give) m, (mget s (gs.foldl (fun m g => mset g.fFrom true m) m)).getD false = ((gs.any fun g => sEqF s g.fFrom) || (mget s m).getD false) := fun gs => by
    induction gs with
    | nil => intro m; simp
    | cons g gs ih =>
      intro m
      rw [List.foldl_cons, ih, mget_mset, List.any_cons]
      cases sEqF s g.fFrom <;> cases (gs.any fun g => sEqF s g.fFrom) <;> rfl
  have h := this gs []
  rw [show (mget s ([] : List (ByteArray × Bool))).getD false = false from rfl, Bool.or_false] at h
  exact h
theorem askM_succ (gs : List Give) (k : Nat) (hk : k < gs.length) : askM (gs.take (k + 1)) = mset gs[k].fFrom true (askM (gs.take k)) := by
  unfold askM
  rw [List.take_succ_eq_append_getElem hk, List.foldl_append]
  rfl
def anyN (p : Nat → Bool) : Nat → Nat → Bool
  | 0, _ => false
  | d + 1, k => p k || anyN p d (k + 1)
theorem scanX {ρ : Type} (N : Nat) (K : Option ρ) (p : Nat → Bool) (e : Option ρ) (L : Nat → Int → Option ρ) (hL : ∀ m (k : Nat), k < N → L (m + 1) k = bif p k then e else L m (wr .i64 (k + 1))) (hK : ∀ m, L (m + 1) N = K) (hl : N < 4611686018427387904) {n : Nat} (hn : N < n) :
    L n 0 = bif anyN p N 0 then e else K := by
  have h := scanN N K (fun k acc => bif p k then e else acc) L hL hK hl N 0 n (by omega) hn
  have hg : ∀ d k, goN (fun k acc => bif p k then e else acc) K d k = bif anyN p d k then e else K := fun d => by
    induction d with
    | zero => intro k; rfl
    | succ d ih =>
      intro k
      show (bif p k then e else goN _ K d (k + 1)) = bif (p k || anyN p d (k + 1)) then e else K
      rw [ih (k + 1)]
      cases p k <;> rfl
  exact h.trans (hg N 0)
def joinB (h g : Give) : Give × Bool :=
  bif g.fHow == 1 then (h, true) else bif h.fHow == 1 then (⟨h.fFrom, g.fHow, g.fN⟩, true) else bif g.fHow == 2 then (h, h.fHow == 6) else
  bif g.fHow == 3 then (bif h.fHow == 2 then (⟨h.fFrom, 1, 0⟩, true) else bif h.fHow == 6 then (h, inR h.fN 0 1) else (h, false)) else
  bif g.fHow == 4 then (bif h.fHow == 2 then (h, decide (g.fN ≥ 2)) else bif h.fHow == 4 then (⟨h.fFrom, 4, mnI h.fN g.fN⟩, true) else bif h.fHow == 6 then (h, decide (h.fN < g.fN)) else (h, false)) else
  (h, h.fHow == 5)
theorem f218_eq (n : Nat) (h g : Give) : f218 n h g = some ⟨(joinB h g).1, (joinB h g).2⟩ := by
  unfold f218 joinB f218_k24 f218_k39
  rw [f58_eq]
  simp only [Option.bind_some]
  cases g.fHow == 1 <;> cases h.fHow == 1 <;> cases g.fHow == 2 <;> cases g.fHow == 3 <;> cases g.fHow == 4 <;> cases h.fHow == 2 <;> cases h.fHow == 4 <;> cases h.fHow == 6 <;> rfl
theorem inR17 {x : Int} (h : inR x 1 7 = true) : x = 1 ∨ x = 2 ∨ x = 3 ∨ x = 4 ∨ x = 5 ∨ x = 6 ∨ x = 7 := by
  unfold inR at h
  simp only [Bool.and_eq_true, decide_eq_true_eq] at h
  omega
theorem f121_eq (n : Nat) (h g : Give) (hh : inR h.fHow 1 7 = true) (hg : inR g.fHow 1 5 = true) : ∃ x, f121 n h g = some (x, (joinB h g).2) ∧ ((joinB h g).2 = true → x = (joinB h g).1) := by
  have hg' : inR g.fHow 1 7 = true := by
    unfold inR at hg ⊢
    simp only [Bool.and_eq_true, decide_eq_true_eq] at hg ⊢
    omega
  unfold f121 f121_k14 f121_k19 f121_k24 f121_k30 f121_k35 f121_k40 f121_k47
  rw [f86_eq]
  simp only [Option.bind_some]
  obtain ⟨hf, hw, hn⟩ := h
  obtain ⟨gf, gw, gn⟩ := g
  have h1 : hw = 1 ∨ hw = 2 ∨ hw = 3 ∨ hw = 4 ∨ hw = 5 ∨ hw = 6 ∨ hw = 7 := inR17 hh
  have h2 : gw = 1 ∨ gw = 2 ∨ gw = 3 ∨ gw = 4 ∨ gw = 5 ∨ gw = 6 ∨ gw = 7 := inR17 hg'
  rcases h1 with rfl | rfl | rfl | rfl | rfl | rfl | rfl <;> rcases h2 with rfl | rfl | rfl | rfl | rfl | rfl | rfl <;>
    first | exact ⟨_, rfl, fun _ => rfl⟩ | exact ⟨_, rfl, fun h => nomatch h⟩ | exact nomatch hg
def asksB (g : Give) : Bool := bif g.fHow == 3 then true else bif g.fHow == 4 then true else g.fHow == 5
theorem f215_eq (n : Nat) (g : Give) : f215 n g = some (asksB g) := by
  unfold f215 f215_k3 asksB
  simp only [cs]
def usesB (l : List Give) (s : ByteArray) : Bool := l.any fun g => inR g.fHow 1 5 && sEqF g.fFrom s
theorem f216_eq {n : Nat} {l : List Give} {s : ByteArray} (hl : l.length < n) (hn : n < 4611686018427387904) : f216 n l s = some (usesB l s) := by
  unfold f216
  have h := scanM l f216_k4 (fun g => inR g.fHow 1 5 && sEqF g.fFrom s) (some true) (f216_l7 l n s f216_k4) (fun m k hk => by
    rw [f216_l7.eq_2, lt_len l k hk, gi_nat]
    simp only [List.getElem?_eq_getElem hk, Option.bind_some, cond_true, f217_eq, f216_k33]
    cases inR l[k].fHow 1 5 <;> cases sEqF l[k].fFrom s <;> rfl) (fun m => by rw [f216_l7.eq_2, ge_len]; rfl) hl (by omega)
  rw [h]
  unfold usesB f216_k4
  cases (l.any fun g => inR g.fHow 1 5 && sEqF g.fFrom s) <;> rfl
end Go.Proofs
end
section
set_option linter.unusedVariables false
namespace Go.Proofs
open Go.Vm
structure TwoOk (n : Nat) (r q : Rule) (f : Form) : Prop where
  rl : r.fGives.length = f.fCols.length
  cn : f.fCols.length < n
  qn : q.fGives.length < n
  rw_ : ∀ h ∈ r.fGives, inR h.fHow 1 7 = true
  qw : ∀ g ∈ q.fGives, inR g.fHow 1 7 = true ∧ (inR g.fHow 1 5 = true → ¬ colIx f.fCols g.fFrom < 0) ∧ (inR g.fHow 1 5 = false → sEqF g.fFrom noS = true)
  cs : ∀ c ∈ f.fCols, sEqF c.fName noS = false
def giveJ (r q : Rule) (f : Form) (k : Nat) : Give ⊕ Unit := match q.fGives[k]? with
  | some g => bif inR g.fHow 1 5 then (match gi r.fGives (colIx f.fCols g.fFrom) with
    | some h => bif (joinB h g).2 then .inl (joinB h g).1 else .inr ()
    | none => .inr ()) else .inl g
  | none => .inr ()
def givesJ (r q : Rule) (f : Form) : List Give ⊕ Unit := fin (giveJ r q f) q.fGives.length 0 []
def askP (r q : Rule) (f : Form) (k : Nat) : Bool := match r.fGives[k]?, f.fCols[k]? with
  | some h, some c => asksB h && !usesB q.fGives c.fName
  | _, _ => false
def askBad (r q : Rule) (f : Form) : Bool := anyN (askP r q f) r.fGives.length 0
section
variable {n : Nat} {r q : Rule} {f : Form}
theorem TwoOk.src (h : TwoOk n r q f) {g : Give} (hg : g ∈ q.fGives) (h5 : inR g.fHow 1 5 = true) : ∃ x, gi r.fGives (colIx f.fCols g.fFrom) = some x ∧ inR x.fHow 1 7 = true := by
  have hi := (h.qw g hg).2.1 h5
  unfold colIx at hi ⊢
  rcases ix_find (fun x : Col => sEqF x.fName g.fFrom) f.fCols 0 with ⟨h1, h2, h3⟩ | ⟨j, y, h1, h2, h3, h4, h5⟩
  · rw [h3] at hi; omega
  · rw [h3, Nat.zero_add, gi_nat]
    have hj := (List.getElem?_eq_some_iff.1 h4).1
    have hj2 : j < r.fGives.length := by rw [h.rl]; exact hj
    exact ⟨_, List.getElem?_eq_getElem hj2, h.rw_ _ (List.getElem_mem hj2)⟩
theorem uses_eq (h : TwoOk n r q f) {c : Col} (hc : c ∈ f.fCols) : ((mget c.fName (askM q.fGives)).getD false) = usesB q.fGives c.fName := by
  rw [askM_get]
  unfold usesB
  have key : ∀ g ∈ q.fGives, sEqF c.fName g.fFrom = (inR g.fHow 1 5 && sEqF g.fFrom c.fName) := fun g hg => by
    rw [sEqF_comm]
    cases h5 : inR g.fHow 1 5 with
    | true => rfl
    | false =>
      have := (h.qw g hg).2.2 h5
      rw [sEqF_eq this, sEqF_comm, h.cs c hc]
      rfl
  clear h
  generalize q.fGives = l at *
  induction l with
  | nil => rfl
  | cons g l ih => rw [List.any_cons, List.any_cons, key g List.mem_cons_self, ih fun g hg => key g (List.mem_cons_of_mem _ hg)]
def noR : Rule := ⟨noS, noS, []⟩
theorem inR15_67 {x : Int} (h : inR x 1 7 = true) : inR x 1 5 = !((x == 6) || (x == 7)) := by
  rcases inR17 h with rfl | rfl | rfl | rfl | rfl | rfl | rfl <;> rfl
theorem f87_eq (h : TwoOk n r q f) (hn : n < 1000000000) : ∃ x, f87 n r q f.fCols = some x ∧
    (x.2 = true → ∃ l, givesJ r q f = .inl l ∧ askBad r q f = false ∧ x.1 = ⟨r.fClass, q.fTo, l⟩) ∧ (x.2 = false → givesJ r q f = .inr () ∨ askBad r q f = true) := by
  have hcn := h.cn
  have hqn := h.qn
  have hrl := h.rl
  have lA : ∀ l, f87_l87 r f.fCols (askM q.fGives) (f87_k83 r q l) n 0 = bif askBad r q f then some (noR, false) else some (⟨r.fClass, q.fTo, l⟩, true) := fun l => by
    refine scanX r.fGives.length (f87_k83 r q l) (askP r q f) (some (noR, false)) (f87_l87 r f.fCols (askM q.fGives) (f87_k83 r q l)) (fun m k hk => ?_) (fun m => by rw [f87_l87.eq_2, ge_len]; rfl) (by omega) (by omega)
    have hk2 : k < f.fCols.length := by omega
    rw [f87_l87.eq_2, lt_len _ k hk, gi_nat, gi_nat]
    unfold askP f87_k121 asksB
    simp only [List.getElem?_eq_getElem hk, List.getElem?_eq_getElem hk2, Option.bind_some, cond_true]
    rw [uses_eq h (List.getElem_mem hk2)]
    cases r.fGives[k].fHow == 3 <;> cases r.fGives[k].fHow == 4 <;> cases r.fGives[k].fHow == 5 <;> cases usesB q.fGives f.fCols[k].fName <;> rfl
  have lB := scanE q.fGives.length (giveJ r q f) (fun l => f87_k7 n r f.fCols q l (askM q.fGives)) (fun _ => some (noR, false))
    (fun m i s => f87_l11 q n f.fCols r (f87_k7 n r f.fCols q) m i s (askM (q.fGives.take i.toNat))) (fun m k s hk hs => by
      have hw : wr .i64 ((k : Int) + 1) = ((k + 1 : Nat) : Int) := by rw [wr_id (by omega) (by omega)]; rfl
      show f87_l11 q n f.fCols r (f87_k7 n r f.fCols q) (m + 1) k s (askM (q.fGives.take k)) = _
      rw [f87_l11.eq_2, lt_len _ k hk, gi_nat]
      unfold giveJ f87_k59
      simp only [List.getElem?_eq_getElem hk, Option.bind_some, cond_true]
      rw [hw]
      have hT : ((k + 1 : Nat) : Int).toNat = k + 1 := rfl
      simp only [hT]
      rw [askM_succ _ k hk]
      have hm := List.getElem_mem hk
      generalize q.fGives[k] = g at *
      obtain ⟨q1, q2, q3⟩ := h.qw g hm
      have e := inR15_67 q1
      cases h6 : g.fHow == 6 with
      | true =>
        rw [h6] at e
        rw [e]
        simp only [cond_true, Bool.true_or, Bool.not_true, cond_false]
        rw [app2_eq (by simp; omega)]
        simp only [Option.bind_some, f87_k51]
        rw [hw]
        rfl
      | false =>
      cases h7 : g.fHow == 7 with
      | true =>
        rw [h6, h7] at e
        rw [e]
        simp only [cond_true, Bool.false_or, Bool.not_true, cond_false]
        rw [app2_eq (by simp; omega)]
        simp only [Option.bind_some, f87_k51]
        rw [hw]
        rfl
      | false =>
        rw [h6, h7] at e
        have e : inR g.fHow 1 5 = true := e
        obtain ⟨x, hx, hxw⟩ := h.src hm e
        obtain ⟨y, hy, hy2⟩ := f121_eq n x g hxw e
        rw [e, f95_eq (by omega) (by omega)]
        simp only [cond_true, cond_false, Option.bind_some]
        rw [hx]
        simp only [Option.bind_some]
        rw [hy]
        simp only [Option.bind_some]
        cases hj : (joinB x g).2 with
        | false => rfl
        | true =>
          simp only [Bool.not_true, cond_false, cond_true]
          rw [hy2 hj, app2_eq (by simp; omega)]
          simp only [Option.bind_some, f87_k51]
          rw [hw]
          rfl)
    (fun m s hs => by
      show f87_l11 q n f.fCols r (f87_k7 n r f.fCols q) (m + 1) q.fGives.length s (askM (q.fGives.take q.fGives.length)) = _
      rw [f87_l11.eq_2, ge_len, List.take_length]; rfl) (by omega) (n := n) hqn
  have lB : f87 n r q f.fCols = (givesJ r q f).elim (fun l => f87_k7 n r f.fCols q l (askM q.fGives)) (fun _ => some (noR, false)) := lB
  rw [lB]
  cases hJ : givesJ r q f with
  | inr u => exact ⟨(noR, false), rfl, fun h => (by cases h), fun _ => .inl rfl⟩
  | inl l =>
    show ∃ x, f87_k7 n r f.fCols q l (askM q.fGives) = some x ∧ _
    unfold f87_k7
    rw [lA l]
    cases hb : askBad r q f with
    | true => exact ⟨(noR, false), rfl, fun h => (by cases h), fun _ => .inr rfl⟩
    | false => exact ⟨_, rfl, fun _ => ⟨l, rfl, rfl, rfl⟩, fun h => by cases h⟩
theorem f205_lA (h : TwoOk n r q f) (hn : n < 1000000000) (K : Option LIsE) : f205_l215 r n f q K n 0 = bif askBad r q f then some ⟨[], false, 5⟩ else K := by
  have hcn := h.cn
  have hqn := h.qn
  have hrl := h.rl
  refine scanX r.fGives.length K (askP r q f) (some ⟨[], false, 5⟩) (f205_l215 r n f q K) (fun m k hk => ?_) (fun m => by rw [f205_l215.eq_2, ge_len]; rfl) (by omega) (by omega)
  have hk2 : k < f.fCols.length := by omega
  rw [f205_l215.eq_2, lt_len _ k hk, gi_nat, gi_nat]
  unfold askP f205_k254
  simp only [List.getElem?_eq_getElem hk, List.getElem?_eq_getElem hk2, Option.bind_some, cond_true]
  rw [f215_eq, f216_eq hqn (by omega)]
  simp only [Option.bind_some]
  cases asksB r.fGives[k] <;> cases usesB q.fGives f.fCols[k].fName <;> rfl
theorem f205_lB (h : TwoOk n r q f) (hn : n < 1000000000) (K : List Give → Option LIsE) : f205_l265 q n f r K n 0 [] = (givesJ r q f).elim K (fun _ => some ⟨[], false, 5⟩) := by
  have hcn := h.cn
  have hqn := h.qn
  have hrl := h.rl
  refine scanE q.fGives.length (giveJ r q f) K (fun _ => some ⟨[], false, 5⟩) (f205_l265 q n f r K) (fun m k s hk hs => ?_) (fun m s hs => by rw [f205_l265.eq_2, ge_len]; rfl) (by omega) (n := n) hqn
  rw [f205_l265.eq_2, lt_len _ k hk, gi_nat]
  unfold giveJ f205_k307
  simp only [List.getElem?_eq_getElem hk, Option.bind_some, cond_true]
  have hm := List.getElem_mem hk
  generalize q.fGives[k] = g at *
  rw [f217_eq]
  simp only [Option.bind_some]
  cases e : inR g.fHow 1 5 with
  | false =>
    simp only [cond_false]
    rw [app2_eq (by simp; omega)]
    rfl
  | true =>
    obtain ⟨x, hx, hxw⟩ := h.src hm e
    simp only [cond_true]
    rw [f57_eq (by omega) (by omega)]
    simp only [Option.bind_some]
    rw [hx]
    simp only [Option.bind_some]
    rw [f218_eq]
    simp only [Option.bind_some]
    cases hj : (joinB x g).2 with
    | false => rfl
    | true =>
      simp only [Bool.not_true, cond_false, cond_true]
      rw [app2_eq (by simp; omega)]
      rfl
end
end Go.Proofs
end
section
set_option linter.unusedVariables false
set_option linter.unusedSimpArgs false
namespace Go.Vm
structure Bulk {H : Type} (β : DataW H → Nat) : Prop where
  str : ∀ l, l.length ≤ β (.lit (.string l))
  sl : ∀ es sp, es.length ≤ β (.slice es sp)
  slm : ∀ es sp d, d ∈ es → β d ≤ β (.slice es sp)
  agm : ∀ ps d, d ∈ ps → β d ≤ β (.agg ps)
section
variable {H : Type} {enc : TypeId × Value → H} {P : Program} {w : World} {β : DataW H → Nat} {B : Nat}
def contF (P : Program) : Nat → List Field → Bool
  | _, [] => true
  | off, f :: fs => f.offset == off && contF P (off + P.cellsOf f.type) fs
def layB (P : Program) : Nat → TypeId → Bool
  | 0, _ => false
  | n + 1, t => match P.underlying t with
    | some .bool | some (.int _) | some .string => P.cellsOf t == 1
    | some (.slice e) => P.cellsOf t == 1 && layB P n e
    | some (.struct fs) => contF P 0 fs.toList && (fs.toList.map fun f => P.cellsOf f.type).sum == P.cellsOf t && fs.toList.all fun f => layB P n f.type
    | _ => false
def fitsD (P : Program) (B : Nat) : Nat → TypeId → List AV → Prop
  | 0, _, _ => False
  | n + 1, t, az => match P.underlying t with
    | some .bool => ∃ b, az = [.val (.bool b)]
    | some (.int k) => ∃ m, az = [.val (.int k m)] ∧ (Lit.int k m).wf = true
    | some .string => ∃ s : ByteArray, az = [.val (.string s)] ∧ s.size ≤ B
    | some (.slice e) => ∃ xs, az = [.sl xs] ∧ xs.length ≤ B ∧ ∀ cs ∈ xs, fitsD P B n e cs
    | some (.struct fs) => ∃ parts : List (List AV), az = parts.flatten ∧ parts.length = fs.toList.length ∧ ∀ (i : Nat) f p, fs.toList[i]? = some f → parts[i]? = some p → fitsD P B n f.type p
    | _ => False
def Cells (w : World) (az : List AV) (cs : List Value) : Prop := az.length = cs.length ∧ ∀ (i : Nat) a u, az[i]? = some a → cs[i]? = some u → RepP w (fun _ b => b < w.heap.size) a u
theorem Cells.one {a : AV} {u : Value} (h : RepP w (fun _ b => b < w.heap.size) a u) : Cells w [a] [u] := ⟨rfl, fun i b v hb hv => by
  cases i with
  | zero => simp at hb hv; subst hb hv; exact h
  | succ i => simp at hb⟩
theorem Cells.append {az bs : List AV} {cs ds : List Value} (h : Cells w az cs) (k : Cells w bs ds) : Cells w (az ++ bs) (cs ++ ds) := ⟨by simp [h.1, k.1], fun i a u ha hu => by
  rw [List.getElem?_append] at ha hu
  rw [← h.1] at hu
  split at ha
  · rename_i hlt; rw [if_pos hlt] at hu; exact h.2 i a u ha hu
  · rename_i hlt; rw [if_neg hlt] at hu; exact k.2 _ a u ha hu⟩
theorem mapM_cons_some {α β : Type} {f : α → Option β} {x : α} {l : List α} {r : List β} (h : (x :: l).mapM f = some r) : ∃ b r', f x = some b ∧ l.mapM f = some r' ∧ r = b :: r' := by
  simp only [List.mapM_cons, Option.bind_eq_bind, Option.bind_eq_some_iff, Option.pure_def, Option.some.injEq] at h
  obtain ⟨b, h1, r', h2, h3⟩ := h
  exact ⟨b, r', h1, h2, h3.symm⟩
theorem fields_cells {n : Nat} {spare : Nat → Bool} {held : Bool} {fuel : Nat} {base : Nat}
    (ih : ∀ (t : TypeId) (cs : List Value) (d : DataW H) (ps : List MemPlace), layB P n t = true → DataW.trod enc P w base spare held fuel t cs = some (d, ps) → β d ≤ B → ∃ az, Cells w az cs ∧ fitsD P B n t az) :
    ∀ (fs : List Field) (off : Nat) (cs : List Value) (xs : List (DataW H × List MemPlace)), contF P off fs = true → (fs.all fun f => layB P n f.type) = true → off + (fs.map fun f => P.cellsOf f.type).sum = cs.length →
      (fs.mapM fun f => DataW.trod enc P w base spare held fuel f.type ((cs.drop f.offset).take (P.cellsOf f.type))) = some xs → (∀ x ∈ xs, β x.1 ≤ B) →
      ∃ parts : List (List AV), Cells w parts.flatten (cs.drop off) ∧ parts.length = fs.length ∧ ∀ (i : Nat) f p, fs[i]? = some f → parts[i]? = some p → fitsD P B n f.type p
  | [], off, cs, xs, _, _, hl, h, _ => by
    simp at hl
    subst hl
    exact ⟨[], ⟨by simp, fun i a u ha => by simp at ha⟩, rfl, fun i f p hf => by simp at hf⟩
  | f :: fs, off, cs, xs, hc, hy, hl, h, hx => by
    obtain ⟨b, r', h1, h2, rfl⟩ := mapM_cons_some h
    simp only [contF, Bool.and_eq_true, beq_iff_eq] at hc
    simp only [List.all_cons, Bool.and_eq_true] at hy
    simp only [List.map_cons, List.sum_cons] at hl
    obtain ⟨az, ha, hfa⟩ := ih f.type _ b.1 b.2 hy.1 h1 (hx b (by simp))
    obtain ⟨parts, hp, hpl, hpf⟩ := fields_cells ih fs (off + P.cellsOf f.type) cs r' hc.2 hy.2 (by omega) h2 (fun x h => hx x (by simp [h]))
    refine ⟨az :: parts, ?_, by simp [hpl], fun i g p hg hp' => ?_⟩
    · rw [hc.1] at ha
      have e : cs.drop off = (cs.drop off).take (P.cellsOf f.type) ++ cs.drop (off + P.cellsOf f.type) := by
        rw [← List.drop_drop, List.take_append_drop]
      rw [e, List.flatten_cons]
      exact ha.append hp
    · cases i with
      | zero => simp at hg hp'; subst hg hp'; exact hfa
      | succ i => simp at hg hp'; exact hpf i g p hg hp'
theorem cell_in {a : Addr} {u : Value} (h : w.cell? a = some u) : a.block < w.heap.size := by
  unfold World.cell? at h
  split at h
  · rename_i hb; exact (Array.getElem?_eq_some_iff.1 hb).1
  · cases h
theorem rows_cells {n : Nat} {e : TypeId} {base : Nat} {a : Addr} {f : List Value → Option (DataW H × List MemPlace)}
    (ih : ∀ (cs : List Value) (d : DataW H) (ps : List MemPlace), f cs = some (d, ps) → β d ≤ B → ∃ az, Cells w az cs ∧ fitsD P B n e az) :
    ∀ (len : Nat) (elems : List (DataW H × List MemPlace)), ((List.range len).mapM fun i => (w.cells? base (a.add (i * P.cellsOf e)) (P.cellsOf e)).bind f) = some elems → (∀ x ∈ elems, β x.1 ≤ B) →
      ∃ xs : List (List AV), xs.length = len ∧ ∀ (j : Nat) cs, xs[j]? = some cs → cs.length = P.cellsOf e ∧ fitsD P B n e cs ∧ ∀ (i : Nat) b, cs[i]? = some b → ∃ u, w.cell? (a.add (j * P.cellsOf e + i)) = some u ∧ RepP w (fun _ b => b < w.heap.size) b u := by
  intro len elems hel hB
  obtain ⟨m1, m2⟩ := mapM_some hel
  have row : ∀ j, j < len → ∃ cs : List AV, cs.length = P.cellsOf e ∧ fitsD P B n e cs ∧ ∀ (i : Nat) b, cs[i]? = some b → ∃ u, w.cell? (a.add (j * P.cellsOf e + i)) = some u ∧ RepP w (fun _ b => b < w.heap.size) b u := fun j hj => by
    obtain ⟨r, hrj, hr⟩ := m2 j j (List.getElem?_range hj)
    have hrB := hB r (List.mem_of_getElem? hrj)
    simp only [Option.bind_eq_some_iff] at hr
    obtain ⟨ecs, h1, h2⟩ := hr
    obtain ⟨az, hc, hf⟩ := ih ecs r.1 r.2 h2 hrB
    unfold World.cells? at h1
    split at h1
    · obtain ⟨k1, k2⟩ := mapM_some h1
      simp only [List.length_range] at k1
      refine ⟨az, by rw [hc.1, k1], hf, fun i b hb => ?_⟩
      have hi : i < P.cellsOf e := by rw [← k1, ← hc.1]; exact (List.getElem?_eq_some_iff.1 hb).1
      obtain ⟨u, hu1, hu2⟩ := k2 i i (List.getElem?_range hi)
      rw [add_add] at hu2
      exact ⟨u, hu2, hc.2 i b u hb hu1⟩
    · cases h1
  refine ⟨(List.range len).map (fun j => if h : j < len then Classical.choose (row j h) else []), by simp, fun j cs hj => ?_⟩
  rw [List.getElem?_map] at hj
  have hlt : j < len := by
    by_cases h : j < len
    · exact h
    · rw [List.getElem?_eq_none (by simpa using Nat.le_of_not_lt h)] at hj; cases hj
  rw [List.getElem?_range hlt] at hj
  simp only [Option.map_some, Option.some.injEq, dif_pos hlt] at hj
  subst hj
  exact Classical.choose_spec (row j hlt)
theorem trod_cells (hβ : Bulk β) {spare : Nat → Bool} {held : Bool} {base : Nat} : ∀ (n fuel : Nat) (t : TypeId) (cs : List Value) (d : DataW H) (ps : List MemPlace), layB P n t = true → DataW.trod enc P w base spare held fuel t cs = some (d, ps) → β d ≤ B → ∃ az, Cells w az cs ∧ fitsD P B n t az
  | 0, fuel, t, cs, d, ps, hl, h, _ => by simp [layB] at hl
  | n + 1, 0, t, cs, d, ps, hl, h, _ => by simp [DataW.trod] at h
  | n + 1, fuel + 1, t, cs, d, ps, hl, h, hd => by
    unfold layB at hl
    unfold DataW.trod at h
    unfold fitsD
    split at hl
    · rename_i hu
      simp only [hu] at h ⊢
      rcases cs with _ | ⟨v, _ | ⟨v2, r⟩⟩
      · simp at h
      · cases v <;> simp at h
        exact ⟨_, Cells.one (.val _), _, rfl⟩
      · simp at h
    · rename_i k hu
      simp only [hu] at h ⊢
      rcases cs with _ | ⟨v, _ | ⟨v2, r⟩⟩
      · simp at h
      · cases v <;> simp at h
        obtain ⟨⟨rfl, h1⟩, _⟩ := h
        exact ⟨_, Cells.one (.val _), _, rfl, h1⟩
      · simp at h
    · rename_i hu
      simp only [hu] at h ⊢
      rcases cs with _ | ⟨v, _ | ⟨v2, r⟩⟩
      · simp at h
      · cases v <;> simp at h
        obtain ⟨h0, rfl, _⟩ := h
        refine ⟨_, Cells.one (.val _), _, rfl, ?_⟩
        have := hβ.str (ByteArray.data ‹ByteArray›).toList
        simp only [Array.length_toList] at this
        exact Nat.le_trans this hd
      · simp at h
    · rename_i e hu
      simp only [Bool.and_eq_true, beq_iff_eq] at hl
      simp only [hu] at h ⊢
      rcases cs with _ | ⟨v, _ | ⟨v2, r⟩⟩
      · simp at h
      · cases v <;> try (simp at h; done)
        rename_i A len cap
        cases A with
        | none =>
          refine ⟨[.sl []], Cells.one ?_, [], rfl, Nat.zero_le _, fun cs hcs => by cases hcs⟩
          have : len = 0 ∧ cap = 0 := by
            cases len <;> cases cap <;> simp at h ⊢
          obtain ⟨rfl, rfl⟩ := this
          exact .sl [] none 0 0 (fun _ _ => undef) (Nat.le_refl _) (Nat.zero_le _) (fun _ => rfl) (fun j cs hj => by simp at hj) (fun j cs i a hj => by simp at hj) (fun j cs i a hj => by simp at hj)
        | some a =>
          simp only at h
          split at h
          · rename_i hcond
            simp only [Option.bind_eq_some_iff, Option.map_eq_some_iff] at h
            obtain ⟨elems, hel, rest, _, hdd⟩ := h
            simp only [Prod.mk.injEq] at hdd
            obtain ⟨rfl, _⟩ := hdd
            have hlen := Nat.le_trans (hβ.sl _ _) hd
            have hme : ∀ x ∈ elems, β x.1 ≤ B := fun x hx => Nat.le_trans (hβ.slm _ _ x.1 (List.mem_map_of_mem hx)) hd
            have hell := (mapM_some hel).1
            simp only [List.length_range] at hell
            simp only [List.length_map, hell] at hlen
            obtain ⟨xs, hxl, hx⟩ := rows_cells (w := w) (a := a) (fun cs d ps hd hb => trod_cells hβ n fuel e cs d ps hl.2 hd hb) len elems hel hme
            refine ⟨[.sl xs], Cells.one ?_, xs, rfl, by omega, fun cs hcs => ?_⟩
            · rw [← hxl]
              refine .sl xs (some a) cap (P.cellsOf e) (fun j i => (w.cell? (a.add (j * P.cellsOf e + i))).getD undef) (by omega) hcond.2.2 (fun e => by cases e) (fun j cs hj => (hx j cs hj).1) (fun j cs i b hj hi => ?_) (fun j cs i b hj hi => ?_)
              · obtain ⟨u, hu1, hu2⟩ := (hx j cs hj).2.2 i b hi
                exact ⟨a, rfl, by have := cell_in hu1; rwa [add_block] at this, by rw [hu1]; rfl⟩
              · obtain ⟨u, hu1, hu2⟩ := (hx j cs hj).2.2 i b hi
                rw [hu1]; exact hu2
            · obtain ⟨j, hj, rfl⟩ := List.getElem_of_mem hcs
              exact (hx j _ (List.getElem?_eq_getElem hj)).2.1
          · cases h
      · simp at h
    · rename_i fs hu
      simp only [Bool.and_eq_true, beq_iff_eq] at hl
      simp only [hu] at h ⊢
      have h' : (if cs.length = P.cellsOf t then (fs.toList.mapM fun f => DataW.trod enc P w base spare held fuel f.type ((cs.drop f.offset).take (P.cellsOf f.type))).map fun xs => (DataW.agg (xs.map (·.1)), xs.flatMap (·.2)) else none) = some (d, ps) := h
      split at h'
      · rename_i hlen
        simp only [Option.map_eq_some_iff] at h'
        obtain ⟨xs, hxs, hdd⟩ := h'
        simp only [Prod.mk.injEq] at hdd
        obtain ⟨rfl, _⟩ := hdd
        have hme : ∀ x ∈ xs, β x.1 ≤ B := fun x hx => Nat.le_trans (hβ.agm _ x.1 (List.mem_map_of_mem hx)) hd
        obtain ⟨parts, k1, k2, k3⟩ := fields_cells (fun t cs d ps hy hd hb => trod_cells hβ n fuel t cs d ps hy hd hb) fs.toList 0 cs xs hl.1.1 hl.2 (by omega) hxs hme
        exact ⟨_, by simpa using k1, parts, rfl, k2, k3⟩
      · cases h'
    · cases hl
end
end Go.Vm
end
section
set_option linter.unusedVariables false
set_option linter.unusedSimpArgs false
namespace Go.Vm
open Go.RowKit Go.ChangeShapes Go
section
variable {H : Type} {enc : TypeId × Value → H} {P : Program} {W W' : World}
theorem trodAll_stays (hl : laidOutB P = true) {sp : Nat → Bool} : ∀ (ts : List TypeId) (vs : List Value) (ds : List (DataW H)) (ps : List MemPlace), (∀ t ∈ ts, P.readableRec t = true ∧ t < P.types.size) →
    DataW.TrodAll enc P W 0 (fun _ => true) true ts vs ds ps → Below W.heap.size W W' → (∀ x ∈ ps, x.block < W.heap.size) → (∀ x ∈ ps, sp x.block = true) → DataW.TrodAll enc P W' 0 sp true ts vs ds ps
  | [], [], [], ps, _, h, _, _, _ => h
  | t :: ts, v :: vs, d :: ds, ps, ht, h, hb, hlt, hsp => by
    obtain ⟨p, q, h1, h2, rfl⟩ := h
    refine ⟨p, q, WideElems.Trod_stays hl (ht t (by simp)).1 (ht t (by simp)).2 h1 (fun x hx => hb.same (hlt x (by simp [hx]))) (fun x hx => hsp x (by simp [hx])),
      trodAll_stays hl ts vs ds q (fun t' ht' => ht t' (by simp [ht'])) h2 hb (fun x hx => hlt x (by simp [hx])) (fun x hx => hsp x (by simp [hx])), rfl⟩
  | [], [], _ :: _, _, _, h, _, _, _ => h.elim
  | [], _ :: _, _, _, _, h, _, _, _ => h.elim
  | _ :: _, [], _, _, _, h, _, _, _ => h.elim
  | _ :: _, _ :: _, [], _, _, h, _, _, _ => h.elim
theorem law_post {f : Func} {s : ChangeSpec} {apart fresh handsOn again : Bool} {args : Array Value} {ds gs : List (DataW H)} {before : List MemPlace} {tb : TypeId} (hl : laidOutB P = true) (hparams : ∀ t ∈ f.params.toList, P.readableRec t = true ∧ t < P.types.size)
    (hrt : f.resultTypes = #[tb]) (hb : P.underlying tb = some .bool) (hvars : s.vars = []) (hfn : (s.fn H (ds ++ [])).results = [.lit (.bool true)] ∧ (s.fn H (ds ++ [])).args = ds ∧ (s.fn H (ds ++ [])).vars = [])
    (hW : DataW.Whole enc P f.params.toList s.vars apart W args.toList ds gs before) (hbel : Below W.heap.size W W') : s.post enc P f apart fresh handsOn again W args (.bool true) W' := by
  have hW' := hW
  obtain ⟨p, q, hA, hV, rfl, hfz, hnd⟩ := hW
  rw [hvars] at hV
  obtain ⟨rfl, rfl⟩ := trodVars_none hV
  have hlt : ∀ x ∈ p ++ [], x.block < W.heap.size := fun x hx => hW'.lt x hx
  simp only [List.append_nil] at hW' hlt hfn
  have hold : ∀ x ∈ p, (fun b => decide (b < W.heap.size)) x.block = true := fun x hx => by simpa using hlt x hx
  have hresB : ∀ (b : Nat) (sp : Nat → Bool) (hd : Bool), DataW.TrodAll enc P W' b sp hd f.resultTypes.toList ((Value.bool true).resultList f.resultTypes.size) (s.fn H ds).results [] := fun b sp hd => by
    rw [hfn.1, hrt]
    exact trodAll_cons_mk (shut_bool hb _) trodAll_mk0
  have hresA : ∀ sp : Nat → Bool, (∀ x ∈ p, sp x.block = true) → DataW.TrodAll enc P W' 0 sp true f.params.toList args.toList (s.fn H ds).args p := fun sp hsp => by
    rw [hfn.2.1]
    exact trodAll_stays hl _ _ _ _ hparams hA hbel hlt hsp
  have hvarsB : ∀ sp : Nat → Bool, DataW.TrodVars enc P W' sp s.vars (s.fn H ds).vars [] := fun sp => by
    rw [hfn.2.2, hvars]; rfl
  refine ⟨ds, [], p, [], p, [], hW', ?_, ?_, ?_, World.keptBut_mono (fun x hx => ⟨hx, ?_⟩) (hbel.frame _), fun _ => ?_⟩
  · simpa using hresB _ _ _
  · simpa using hresA _ hold
  · simpa using hvarsB _
  · simp [hx]
  · refine ⟨ok_one hrt rfl (okWide_bool_mk hb _), _, _, ([] ++ p) ++ [], ⟨[] ++ p, [], trodAll_append (hresA _ (fun _ _ => rfl)) (hresB _ _ _), by simpa using hvarsB _, rfl, ?_, ?_⟩, ?_⟩
    · intro b off hp
      have hp' : MemPlace.cell b off ∈ p := by simpa using hp
      have hb' : b < W.heap.size := hlt _ hp'
      rw [hbel.frozen hb']
      exact hfz b off (by simpa using hp')
    · intro ha
      have := hnd ha
      simpa using this
    · intro x hx _
      simpa using hx
end
end Go.Vm
end
section
set_option linter.unusedVariables false
set_option linter.unusedSimpArgs false
namespace Go.Vm
open Go.RowKit Go.ChangeShapes
section
variable {H : Type} {enc : TypeId × Value → H} {P : Program} {W W' : World} {β : DataW H → Nat} {B : Nat}
def argFits (P : Program) (B n : Nat) (t : TypeId) (a : AV) : Prop :=
  match P.underlying t with
  | some (.struct _) => ∃ az, a = .agg az ∧ fitsD P B n t az
  | _ => fitsD P B n t [a]
theorem arg_rep (hβ : Bulk β) {n base : Nat} {t : TypeId} {v : Value} {d : DataW H} {p : List MemPlace} (hl : layB P n t = true) (hok : Value.okWide P W .any base t v) (h : DataW.Trod enc P W 0 (fun _ => true) true t v d p) (hd : β d ≤ B) :
    ∃ a, argFits P B n t a ∧ RepP W (fun _ b => b < W.heap.size) a v := by
  obtain ⟨fuel, hf⟩ := h
  obtain ⟨az, hc, hfit⟩ := trod_cells hβ n fuel t v.cells.toList d p hl hf hd
  cases n with
  | zero => simp [layB] at hl
  | succ n =>
    have single : v.cells = #[v] → fitsD P B (n + 1) t az → (∀ x, az = [x] → argFits P B (n + 1) t x) → (∃ x, az = [x]) → ∃ a, argFits P B (n + 1) t a ∧ RepP W (fun _ b => b < W.heap.size) a v := fun hv hfit ha ⟨x, hx⟩ => by
      subst hx
      rw [hv] at hc
      exact ⟨x, ha x rfl, hc.2 0 x v rfl rfl⟩
    unfold layB at hl
    split at hl
    · rename_i hu
      have hv : v.cells = #[v] := by cases v <;> first | rfl | simp [Value.okWide, hu, Cell.okWide, Cell.ok] at hok
      have hfit' := hfit
      unfold fitsD at hfit'
      simp only [hu] at hfit'
      obtain ⟨b, rfl⟩ := hfit'
      exact single hv hfit (fun x hx => by unfold argFits; simp only [hu]; rw [← hx]; exact hfit) ⟨_, rfl⟩
    · rename_i k hu
      have hv : v.cells = #[v] := by cases v <;> first | rfl | simp [Value.okWide, hu, Cell.okWide, Cell.ok] at hok
      have hfit' := hfit
      unfold fitsD at hfit'
      simp only [hu] at hfit'
      obtain ⟨b, rfl, _⟩ := hfit'
      exact single hv hfit (fun x hx => by unfold argFits; simp only [hu]; rw [← hx]; exact hfit) ⟨_, rfl⟩
    · rename_i hu
      have hv : v.cells = #[v] := by cases v <;> first | rfl | simp [Value.okWide, hu, Cell.okWide, Cell.ok] at hok
      have hfit' := hfit
      unfold fitsD at hfit'
      simp only [hu] at hfit'
      obtain ⟨b, rfl, _⟩ := hfit'
      exact single hv hfit (fun x hx => by unfold argFits; simp only [hu]; rw [← hx]; exact hfit) ⟨_, rfl⟩
    · rename_i e hu
      have hv : v.cells = #[v] := by cases v <;> first | rfl | simp [Value.okWide, hu, Cell.okWide, Cell.ok] at hok
      have hfit' := hfit
      unfold fitsD at hfit'
      simp only [hu] at hfit'
      obtain ⟨b, rfl, _⟩ := hfit'
      exact single hv hfit (fun x hx => by unfold argFits; simp only [hu]; rw [← hx]; exact hfit) ⟨_, rfl⟩
    · rename_i fs hu
      have hv : ∃ cs, v = .agg cs := by
        simp only [Value.okWide, hu] at hok
        obtain ⟨cs, h1, _⟩ := hok
        exact ⟨cs, h1⟩
      obtain ⟨cs, rfl⟩ := hv
      refine ⟨.agg az, by unfold argFits; simp only [hu]; exact ⟨az, rfl, hfit⟩, ?_⟩
      have := RepP.agg (w := W) (I := fun _ b => b < W.heap.size) az cs.toList (by simpa [Value.cells] using hc.1) (fun i a u ha hu => hc.2 i a u ha (by simpa [Value.cells] using hu))
      simpa using this
    · cases hl
def argsFit (P : Program) (B n : Nat) : List TypeId → List AV → Prop
  | [], [] => True
  | t :: ts, a :: az => argFits P B n t a ∧ argsFit P B n ts az
  | _, _ => False
theorem args_rep (hβ : Bulk β) {n base : Nat} : ∀ (ts : List TypeId) (vs : List Value) (ds : List (DataW H)) (ps : List MemPlace), (∀ t ∈ ts, layB P n t = true) → (∀ (j : Nat) t v, ts[j]? = some t → vs[j]? = some v → Value.okWide P W .any base t v) →
    DataW.TrodAll enc P W 0 (fun _ => true) true ts vs ds ps → (∀ d ∈ ds, β d ≤ B) → ∃ az, argsFit P B n ts az ∧ vs.length = az.length ∧ ∀ (i : Nat) a v, az[i]? = some a → vs[i]? = some v → RepP W (fun _ b => b < W.heap.size) a v
  | [], [], [], ps, _, _, h, _ => ⟨[], trivial, rfl, fun i a v ha => by simp at ha⟩
  | t :: ts, v :: vs, d :: ds, ps, hl, hok, h, hb => by
    obtain ⟨p, q, h1, h2, rfl⟩ := h
    obtain ⟨a, ha, hr⟩ := arg_rep hβ (hl t (by simp)) (hok 0 t v rfl rfl) h1 (hb d (by simp))
    obtain ⟨az, k1, k2, k3⟩ := args_rep hβ ts vs ds q (fun t' ht => hl t' (by simp [ht])) (fun j t' v' ht hv => hok (j + 1) t' v' (by simpa using ht) (by simpa using hv)) h2 (fun d hd => hb d (by simp [hd]))
    refine ⟨a :: az, ⟨ha, k1⟩, by simp [k2], fun i b u hb hu => ?_⟩
    cases i with
    | zero => simp at hb hu; subst hb hu; exact hr
    | succ i => simp at hb hu; exact k3 i b u hb hu
  | [], [], _ :: _, _, _, _, h, _ => h.elim
  | [], _ :: _, _, _, _, _, h, _ => h.elim
  | _ :: _, [], _, _, _, _, h, _ => h.elim
  | _ :: _, _ :: _, [], _, _, _, h, _ => h.elim
theorem law_contract (hβ : Bulk β) {f : Nat} {fn : Func} {c : Code} {s : ChangeSpec} {apart fresh handsOn again : Bool} {args : Array Value} {ds gs : List (DataW H)} {before : List MemPlace} {tb n base : Nat}
    (hf : P.funcs[f]? = some fn) (hn : (fn.name == "runtime.NumGoroutine") = false) (hbody : fn.body = some c)
    (hlay : ∀ t ∈ fn.params.toList, layB P n t = true) (hP : ∀ az, argsFit P B n fn.params.toList az → PureSpec P f az (.val (.bool true)))
    (hl : laidOutB P = true) (hparams : ∀ t ∈ fn.params.toList, P.readableRec t = true ∧ t < P.types.size) (hrt : fn.resultTypes = #[tb]) (hb : P.underlying tb = some .bool) (hvars : s.vars = [])
    (hfn : (s.fn H (ds ++ [])).results = [.lit (.bool true)] ∧ (s.fn H (ds ++ [])).args = ds ∧ (s.fn H (ds ++ [])).vars = [])
    (hval : ∀ (j : Nat) t v, fn.params[j]? = some t → args[j]? = some v → Value.okWide P W .any base t v)
    (hW : DataW.Whole enc P fn.params.toList s.vars apart W args.toList ds gs before) (hds : ∀ d ∈ ds, β d ≤ B) : Calls P f args W fun e W' => ∃ v, e = .returned v ∧ s.post enc P fn apart fresh handsOn again W args v W' := by
  obtain ⟨p, q, hA, _⟩ := id hW
  obtain ⟨az, k1, k2, k3⟩ := args_rep hβ (base := base) fn.params.toList args.toList ds p hlay (fun j t v ht hv => hval j t v (by simpa using ht) (by simpa using hv)) hA hds
  have hc := hP az k1 W (fun _ _ => True) args.toList k2 (fun i a v ha hv => (k3 i a v ha hv).mono (fun _ b hb => ⟨⟨trivial, hb⟩, rfl⟩))
  have hr : (callFunc f args).run P W = .ok (.enter f args) W := by
    have hn' : ¬ fn.name = "runtime.NumGoroutine" := by simpa using hn
    simp [callFunc, hf, hn', hbody]
  simp only [Array.toArray_toList] at hc
  unfold CallsX at hc
  rw [hr] at hc
  refine Calls.mono hc (fun e W' h => ?_)
  obtain ⟨v, rfl, h1, h2⟩ := h
  have hv : v = .bool true := by cases h1; rfl
  subst hv
  exact ⟨_, rfl, law_post hl hparams hrt hb hvars hfn hW h2⟩
end
end Go.Vm
end
section
set_option linter.unusedVariables false
set_option linter.unusedSimpArgs false
namespace Go.Vm
section
variable {P : Program} {B n : Nat} {t : TypeId} {az : List AV}
theorem fits_int {k : IntKind} (hu : P.underlying t = some (.int k)) (h : fitsD P B n t az) : ∃ m, az = [.val (.int k m)] ∧ (Lit.int k m).wf = true := by
  cases n with
  | zero => exact h.elim
  | succ n => unfold fitsD at h; simp only [hu] at h; exact h
theorem fits_str (hu : P.underlying t = some .string) (h : fitsD P B n t az) : ∃ s : ByteArray, az = [.val (.string s)] ∧ s.size ≤ B := by
  cases n with
  | zero => exact h.elim
  | succ n => unfold fitsD at h; simp only [hu] at h; exact h
theorem fits_slice {e : TypeId} (hu : P.underlying t = some (.slice e)) (h : fitsD P B n t az) : ∃ xs m, az = [.sl xs] ∧ xs.length ≤ B ∧ ∀ cs ∈ xs, fitsD P B m e cs := by
  cases n with
  | zero => exact h.elim
  | succ n => unfold fitsD at h; simp only [hu] at h; obtain ⟨xs, h1, h2, h3⟩ := h; exact ⟨xs, n, h1, h2, h3⟩
theorem fits_struct {fs : Array Field} (hu : P.underlying t = some (.struct fs)) (h : fitsD P B n t az) :
    ∃ (parts : List (List AV)) (m : Nat), az = parts.flatten ∧ parts.length = fs.toList.length ∧ ∀ (i : Nat) f p, fs.toList[i]? = some f → parts[i]? = some p → fitsD P B m f.type p := by
  cases n with
  | zero => exact h.elim
  | succ n => unfold fitsD at h; simp only [hu] at h; obtain ⟨parts, h1, h2, h3⟩ := h; exact ⟨parts, n, h1, h2, h3⟩
theorem fits_types {ts : List TypeId} (h : fitsD P B n t az) (hu : P.underlying t = some (.struct (P.fieldsOf t))) (hm : (P.fieldsOf t).toList.map (·.type) = ts) :
    ∃ (parts : List (List AV)) (m : Nat), az = parts.flatten ∧ parts.length = ts.length ∧ ∀ (i : Nat) u p, ts[i]? = some u → parts[i]? = some p → fitsD P B m u p := by
  obtain ⟨parts, m, h1, h2, h3⟩ := fits_struct hu h
  subst hm
  refine ⟨parts, m, h1, by simpa using h2, fun i u p hu hp => ?_⟩
  rw [List.getElem?_map] at hu
  obtain ⟨f, hf, rfl⟩ := Option.map_eq_some_iff.1 hu
  exact h3 i f p hf hp
theorem fits_two (t1 t2 : TypeId) (h : fitsD P B n t az) (hu : P.underlying t = some (.struct (P.fieldsOf t)) := by kernel_rfl) (hm : (P.fieldsOf t).toList.map (·.type) = [t1, t2] := by kernel_rfl) :
    ∃ p q m, az = p ++ q ∧ fitsD P B m t1 p ∧ fitsD P B m t2 q := by
  obtain ⟨parts, m, h1, h2, h3⟩ := fits_types h hu hm
  match parts, h2 with
  | [p, q], _ => exact ⟨p, q, m, by simpa using h1, h3 0 t1 p rfl rfl, h3 1 t2 q rfl rfl⟩
theorem fits_three (t1 t2 t3 : TypeId) (h : fitsD P B n t az) (hu : P.underlying t = some (.struct (P.fieldsOf t)) := by kernel_rfl) (hm : (P.fieldsOf t).toList.map (·.type) = [t1, t2, t3] := by kernel_rfl) :
    ∃ p q r m, az = p ++ q ++ r ∧ fitsD P B m t1 p ∧ fitsD P B m t2 q ∧ fitsD P B m t3 r := by
  obtain ⟨parts, m, h1, h2, h3⟩ := fits_types h hu hm
  match parts, h2 with
  | [p, q, r], _ => exact ⟨p, q, r, m, by simpa using h1, h3 0 t1 p rfl rfl, h3 1 t2 q rfl rfl, h3 2 t3 r rfl rfl⟩
theorem fits_list {α : Type} {cells : α → List AV} {Q : α → Prop} {xs : List (List AV)} (h : ∀ cs ∈ xs, ∃ a, cs = cells a ∧ Q a) : ∃ l : List α, xs = l.map cells ∧ ∀ a ∈ l, Q a := by
  induction xs with
  | nil => exact ⟨[], rfl, fun a ha => by cases ha⟩
  | cons x xs ih =>
    obtain ⟨a, h1, h2⟩ := h x (by simp)
    obtain ⟨l, h3, h4⟩ := ih (fun cs hcs => h cs (by simp [hcs]))
    refine ⟨a :: l, by simp [h1, h3], fun b hb => ?_⟩
    rcases List.mem_cons.1 hb with rfl | hb
    · exact h2
    · exact h4 b hb
end
end Go.Vm
end
section
namespace Go.Proofs
open Go.Vm
set_option linter.unusedVariables false
def iok (m : Int) : Prop := -9223372036854775808 ≤ m ∧ m < 9223372036854775808
theorem iok_wf {m : Int} (h : (Lit.int .i64 m).wf = true) : iok m := by
  have h1 : -9223372036854775808 ≤ m ∧ m ≤ 9223372036854775807 := by simpa [Lit.wf, IntKind.min, IntKind.max, IntKind.bits, IntKind.signed] using h
  exact ⟨h1.1, by omega⟩
def Val.ok (B : Nat) (x : Val) : Prop := (iok x.fKind) ∧ (iok x.fN)
def Node.ok (B : Nat) (x : Node) : Prop := (x.fClass.size ≤ B) ∧ (x.fVals.length ≤ B ∧ ∀ y ∈ x.fVals, Val.ok B y)
def Graph.ok (B : Nat) (x : Graph) : Prop := (x.fNodes.length ≤ B ∧ ∀ y ∈ x.fNodes, Node.ok B y) ∧ (x.fRoots.length ≤ B ∧ ∀ y ∈ x.fRoots, Val.ok B y)
def Col.ok (B : Nat) (x : Col) : Prop := (x.fName.size ≤ B) ∧ (iok x.fKind) ∧ (x.fClass.size ≤ B)
theorem fits_Col68 {B n : Nat} {us : List AV} (h : fitsD Tryz.prog B n 68 us) : ∃ x : Col, us = Col.c x ∧ Col.ok B x := by
  obtain ⟨p, q, r, m, rfl, h0, h1, h2⟩ := fits_three 9 3 9 h
  obtain ⟨x0, rfl, g0⟩ := fits_str (by kernel_rfl) h0
  obtain ⟨x1, rfl, g1⟩ := fits_int (k := .i64) (by kernel_rfl) h1
  obtain ⟨x2, rfl, g2⟩ := fits_str (by kernel_rfl) h2
  exact ⟨⟨x0, x1, x2⟩, rfl, g0, iok_wf g1, g2⟩
def Form.ok (B : Nat) (x : Form) : Prop := (x.fName.size ≤ B) ∧ (x.fCols.length ≤ B ∧ ∀ y ∈ x.fCols, Col.ok B y)
theorem fits_Form66 {B n : Nat} {us : List AV} (h : fitsD Tryz.prog B n 66 us) : ∃ x : Form, us = Form.c x ∧ Form.ok B x := by
  obtain ⟨p, q, m, rfl, h0, h1⟩ := fits_two 9 64 h
  obtain ⟨x0, rfl, g0⟩ := fits_str (by kernel_rfl) h0
  obtain ⟨y1, m1, rfl, g1, k1⟩ := fits_slice (e := 68) (by kernel_rfl) h1
  obtain ⟨x1, rfl, l1⟩ := fits_list (cells := Col.c) (Q := Col.ok B) (fun cs hcs => fits_Col68 (k1 cs hcs))
  rw [List.length_map] at g1
  exact ⟨⟨x0, x1⟩, rfl, g0, ⟨g1, l1⟩⟩
def Give.ok (B : Nat) (x : Give) : Prop := (x.fFrom.size ≤ B) ∧ (iok x.fHow) ∧ (iok x.fN)
theorem fits_Give82 {B n : Nat} {us : List AV} (h : fitsD Tryz.prog B n 82 us) : ∃ x : Give, us = Give.c x ∧ Give.ok B x := by
  obtain ⟨p, q, r, m, rfl, h0, h1, h2⟩ := fits_three 9 3 3 h
  obtain ⟨x0, rfl, g0⟩ := fits_str (by kernel_rfl) h0
  obtain ⟨x1, rfl, g1⟩ := fits_int (k := .i64) (by kernel_rfl) h1
  obtain ⟨x2, rfl, g2⟩ := fits_int (k := .i64) (by kernel_rfl) h2
  exact ⟨⟨x0, x1, x2⟩, rfl, g0, iok_wf g1, iok_wf g2⟩
def Rule.ok (B : Nat) (x : Rule) : Prop := (x.fClass.size ≤ B) ∧ (x.fTo.size ≤ B) ∧ (x.fGives.length ≤ B ∧ ∀ y ∈ x.fGives, Give.ok B y)
theorem fits_Rule71 {B n : Nat} {us : List AV} (h : fitsD Tryz.prog B n 71 us) : ∃ x : Rule, us = Rule.c x ∧ Rule.ok B x := by
  obtain ⟨p, q, r, m, rfl, h0, h1, h2⟩ := fits_three 9 9 69 h
  obtain ⟨x0, rfl, g0⟩ := fits_str (by kernel_rfl) h0
  obtain ⟨x1, rfl, g1⟩ := fits_str (by kernel_rfl) h1
  obtain ⟨y2, m2, rfl, g2, k2⟩ := fits_slice (e := 82) (by kernel_rfl) h2
  obtain ⟨x2, rfl, l2⟩ := fits_list (cells := Give.c) (Q := Give.ok B) (fun cs hcs => fits_Give82 (k2 cs hcs))
  rw [List.length_map] at g2
  exact ⟨⟨x0, x1, x2⟩, rfl, g0, g1, ⟨g2, l2⟩⟩
end Go.Proofs
end
section
set_option linter.unusedVariables false
set_option linter.unusedSimpArgs false
namespace Go.Proofs
open Go.Vm
theorem f49_tri {n : Nat} (h : 100 < n) (a b c : Int) : f49 n [a, b, c] = some (bif a != 0 then a else bif b != 0 then b else c) := by
  obtain ⟨m, rfl⟩ : ∃ m, n = m + 4 := ⟨n - 4, by omega⟩
  show (bif a != 0 then some a else bif b != 0 then some b else bif c != 0 then some c else f49_k3) = _
  unfold f49_k3
  cases ha : a != 0 with
  | true => rfl
  | false =>
    cases hb : b != 0 with
    | true => rfl
    | false =>
      cases hc : c != 0 with
      | true => rfl
      | false =>
        have : c = 0 := by simpa using hc
        rw [this]; rfl
theorem ruleAt_cl {L : List Rule} {c : ByteArray} (h : gi L (ixOf (ruleP c) L 0) = some (ruleAt L c)) : (ruleAt L c).fClass = c := by
  rcases ix_find (ruleP c) L 0 with ⟨h1, h2, h3⟩ | ⟨j, r, h1, h2, h3, h4, h5⟩
  · rw [h3] at h; cases h
  · have e : ruleAt L c = r := by unfold ruleAt; rw [h1]; rfl
    rw [e]; exact sEqF_eq h5
theorem formIx_mem {A : List Form} {a : Form} (h : a ∈ A) : ¬ formIx A a.fName < 0 := by
  intro hlt
  have h1 := ix_neg (fun x : Form => sEqF x.fName a.fName) A
  have h2 : (A.any fun x => sEqF x.fName a.fName) = true := List.any_eq_true.2 ⟨a, h, sEqF_refl _⟩
  rw [h2] at h1
  exact of_decide_eq_false h1 hlt
theorem argBad_from {g : Give} {to : Col} (h : argBad g to = false) (h5 : inR g.fHow 1 5 = false) : sEqF g.fFrom noS = true := by
  unfold argBad at h
  rw [h5] at h
  revert h
  cases inR g.fHow 1 7 <;> cases sEqF g.fFrom noS <;> intro h <;> first | rfl | cases h
theorem giveB_bad {L : List Rule} {g : Give} {cols : List Col} {to : Col} (h : giveB L g cols to = 0) : argBad g to = false := by
  unfold giveB at h
  have h3 : ∀ a b c : Bool, (bif a then (4 : Int) else bif b then 1 else bif c then 0 else 8) = 0 → a = false ∧ b = false := by decide
  exact (h3 _ _ _ h).2
theorem classS_noS : smallB noS = false := by decide
theorem twoOk_of {n : Nat} {A B C : List Form} {L M : List Rule} (hB : FormsOk B) (hz1 : RuleSz n A B L) (hz2 : RuleSz n B C M) (h1 : rulesE A B L = 0) (h2 : rulesE B C M = 0) {c : ByteArray} (hc : ¬ formIx A c < 0) :
    TwoOk n (ruleAt L c) (ruleAt M (ruleAt L c).fTo) (formAt B (ruleAt L c).fTo) := by
  have ro := ruleOk_of h1 hc
  have rp := ruleOk_of h2 ro.to
  obtain ⟨_, m1, _⟩ := formAt_gi ro.to
  obtain ⟨_, m2, _⟩ := formAt_gi rp.to
  refine ⟨ro.ln, hz1.bc _ m1, by rw [rp.ln]; exact hz2.bc _ m2, fun h hh => ?_, fun g hg => ?_, fun x hx => ?_⟩
  · obtain ⟨j, hj, rfl⟩ := List.getElem_of_mem hh
    exact (giveB_src (ro.gv j hj (by rw [← ro.ln]; exact hj))).1
  · obtain ⟨j, hj, rfl⟩ := List.getElem_of_mem hg
    have h0 := rp.gv j hj (by rw [← rp.ln]; exact hj)
    exact ⟨(giveB_src h0).1, (giveB_src h0).2, argBad_from (giveB_bad h0)⟩
  · have := (hB.col m1 hx).1
    cases hs : sEqF x.fName noS with
    | false => rfl
    | true => rw [sEqF_eq hs, classS_noS] at this; cases this
def ruleOne (B : List Form) (L M : List Rule) (a : Form) : Rule ⊕ Unit :=
  (givesJ (ruleAt L a.fName) (ruleAt M (ruleAt L a.fName).fTo) (formAt B (ruleAt L a.fName).fTo)).elim
    (fun l => bif askBad (ruleAt L a.fName) (ruleAt M (ruleAt L a.fName).fTo) (formAt B (ruleAt L a.fName).fTo) then .inr () else .inl ⟨a.fName, (ruleAt M (ruleAt L a.fName).fTo).fTo, l⟩) (fun _ => .inr ())
def ruleMk (A B : List Form) (L M : List Rule) (k : Nat) : Rule ⊕ Unit := match A[k]? with
  | some a => ruleOne B L M a
  | none => .inr ()
section
variable {n : Nat} {A B C : List Form} {L M : List Rule}
theorem f38_l (hB : FormsOk B) (hz1 : RuleSz n A B L) (hz2 : RuleSz n B C M) (h1 : rulesE A B L = 0) (h2 : rulesE B C M = 0) (hn : n < 1000000000) (K : List Rule → Option (List Rule × Int)) :
    f38_l36 A n L M B K n 0 [] = (fin (ruleMk A B L M) A.length 0 []).elim K (fun _ => some ([], 5)) := by
  have zA := hz1.a; have zB := hz1.b; have zL := hz1.r; have zM := hz2.r
  refine scanE A.length (ruleMk A B L M) K (fun _ => some ([], 5)) (f38_l36 A n L M B K) (fun m k s hk hs => ?_) (fun m s hs => by rw [f38_l36.eq_2, ge_len]; rfl) (by omega) zA
  rw [f38_l36.eq_2, lt_len _ k hk, gi_nat]
  unfold ruleMk ruleOne
  simp only [List.getElem?_eq_getElem hk, Option.bind_some, cond_true]
  have hc := formIx_mem (List.getElem_mem hk)
  have two := twoOk_of hB hz1 hz2 h1 h2 hc
  have ro := ruleOk_of h1 hc
  have hcl := ruleAt_cl ro.at_
  generalize A[k].fName = c at *
  obtain ⟨b1, _, _⟩ := formAt_gi ro.to
  rw [f78_eq zL (by omega)]
  simp only [Option.bind_some]
  rw [f78_eq zM (by omega), f52_eq zB (by omega)]
  simp only [Option.bind_some]
  rw [b1]
  simp only [Option.bind_some]
  generalize ruleAt L c = r at *
  generalize ruleAt M r.fTo = q at *
  generalize formAt B r.fTo = f at *
  obtain ⟨x, e1, e2, e3⟩ := f87_eq two hn
  rw [e1]
  simp only [Option.bind_some]
  cases hx : x.2 with
  | true =>
    obtain ⟨l, j1, j2, j3⟩ := e2 hx
    rw [j1, j3, j2, hcl]
    simp only [Bool.not_true, cond_false]
    rw [app2_eq (by simp; omega)]
    rfl
  | false =>
    have hx' := e3 hx
    cases hj : givesJ r q f with
    | inr u => rfl
    | inl l =>
      rcases hx' with h | h
      · rw [hj] at h; cases h
      · rw [h]; rfl
theorem f205_l (hB : FormsOk B) (hz1 : RuleSz n A B L) (hz2 : RuleSz n B C M) (h1 : rulesE A B L = 0) (h2 : rulesE B C M = 0) (hn : n < 1000000000) (K : List Rule → Option LIsE) :
    f205_l42 A n L M B K n 0 [] = (fin (ruleMk A B L M) A.length 0 []).elim K (fun _ => some ⟨[], false, 5⟩) := by
  have zA := hz1.a; have zB := hz1.b; have zL := hz1.r; have zM := hz2.r
  refine scanE A.length (ruleMk A B L M) K (fun _ => some ⟨[], false, 5⟩) (f205_l42 A n L M B K) (fun m k s hk hs => ?_) (fun m s hs => by rw [f205_l42.eq_2, ge_len]; rfl) (by omega) zA
  rw [f205_l42.eq_2, lt_len _ k hk, gi_nat]
  have hx : A[k]? = some A[k] := List.getElem?_eq_getElem hk
  unfold ruleMk ruleOne
  rw [hx]
  simp only [Option.bind_some, cond_true]
  have hc := formIx_mem (List.getElem_mem hk)
  have two := twoOk_of hB hz1 hz2 h1 h2 hc
  have ro := ruleOk_of h1 hc
  have rp := ruleOk_of h2 ro.to
  obtain ⟨b1, _, _⟩ := formAt_gi ro.to
  have ra := ro.at_
  have rb := rp.at_
  generalize hc0 : A[k].fName = c at *
  rw [f212_eq zL (by omega)]
  simp only [Option.bind_some]
  rw [ra]
  simp only [Option.bind_some]
  rw [f212_eq zM (by omega)]
  simp only [Option.bind_some]
  rw [rb]
  simp only [Option.bind_some]
  rw [f55_eq zB (by omega)]
  simp only [Option.bind_some]
  rw [b1]
  simp only [Option.bind_some]
  clear ra rb rp ro
  generalize ruleAt L c = r at *
  generalize ruleAt M r.fTo = q at *
  generalize formAt B r.fTo = f at *
  rw [f205_lA two hn]
  unfold f205_k212
  rw [gi_nat, hx]
  simp only [Option.bind_some]
  rw [f205_lB two hn]
  cases hj : givesJ r q f with
  | inr u => cases askBad r q f <;> rfl
  | inl l =>
    cases askBad r q f with
    | true => rfl
    | false =>
      show f205_k262 s A[k] q k _ l = _
      unfold f205_k262 f205_k193
      rw [app2_eq (by simp; omega), hc0]
      rfl
theorem givesJ_len {r q : Rule} {f : Form} (h : TwoOk n r q f) {l : List Give} (hl : givesJ r q f = .inl l) : l.length < n := by
  unfold givesJ at hl
  rw [fin_len _ _ _ _ hl]
  have := h.qn
  simpa using this
structure RulesSz (n : Nat) (l : List Rule) : Prop where
  ln : l.length < n
  gv : ∀ r ∈ l, r.fGives.length < n
theorem ruleMk_sz (hB : FormsOk B) (hz1 : RuleSz n A B L) (hz2 : RuleSz n B C M) (h1 : rulesE A B L = 0) (h2 : rulesE B C M = 0) {l : List Rule} (hl : fin (ruleMk A B L M) A.length 0 [] = .inl l) : RulesSz n l := by
  refine ⟨?_, ?_⟩
  · rw [fin_len _ _ _ _ hl]
    have := hz1.a
    simpa using this
  · refine fin_mem (P := fun r : Rule => r.fGives.length < n) (fun k y hy => ?_) _ _ _ _ hl (fun x hx => nomatch hx)
    unfold ruleMk at hy
    cases hx : A[k]? with
    | none => rw [hx] at hy; cases hy
    | some a =>
      rw [hx] at hy
      have two := twoOk_of hB hz1 hz2 h1 h2 (formIx_mem (List.mem_of_getElem? hx))
      have hy : ruleOne B L M a = .inl y := hy
      unfold ruleOne at hy
      cases hj : givesJ (ruleAt L a.fName) (ruleAt M (ruleAt L a.fName).fTo) (formAt B (ruleAt L a.fName).fTo) with
      | inr u => rw [hj] at hy; cases hy
      | inl g =>
        have hlen := givesJ_len two hj
        rw [hj, Sum.elim_inl] at hy
        cases hb : askBad (ruleAt L a.fName) (ruleAt M (ruleAt L a.fName).fTo) (formAt B (ruleAt L a.fName).fTo) with
        | true => rw [hb] at hy; cases hy
        | false => rw [hb] at hy; cases hy; exact hlen
theorem f38_f205 (hA : FormSz n A) (hB : FormSz n B) (hC : FormSz n C) (hL : L.length < n) (hM : M.length < n) (h9 : 100 < n) (hn : n < 1000000000) :
    ∃ l e, f38 n A B C L M = some (l, e) ∧ f205 n A B C L M = some ⟨l, false, e⟩ ∧ RulesSz n l := by
  have hn' : n < 4611686018427387904 := by omega
  have h0 : RulesSz n [] := ⟨by show 0 < n; omega, fun x hx => nomatch hx⟩
  obtain ⟨a, ha⟩ := f16_tot hA h9 hn'
  obtain ⟨b, hb⟩ := f16_tot hB h9 hn'
  obtain ⟨c, hc⟩ := f16_tot hC h9 hn'
  have hz1 := ruleSz hA hB hL
  have hz2 := ruleSz hB hC hM
  unfold f38 f205 f205_k10 f205_k16 f205_k22 f205_k28
  rw [← f16_f17 hA h9 hn', ← f16_f17 hB h9 hn', ← f16_f17 hC h9 hn', ha, hb, hc]
  simp only [Option.bind_some]
  rw [f49_tri h9, f80_eq hz1 hn', f80_eq hz2 hn']
  simp only [Option.bind_some]
  rw [f49_two h9]
  simp only [Option.bind_some]
  have z0 : ((0 : Int) == 0) = true := rfl
  have z1 : ((0 : Int) != 0) = false := rfl
  have ne : ∀ x : Int, (x != 0) = true → (x == 0) = false := fun x h => by simpa [bne] using h
  have eq0 : ∀ x : Int, (x != 0) = false → x = 0 := fun x h => by simpa using h
  cases h1 : a != 0 with
  | true =>
    refine ⟨[], a, ?_, ?_, h0⟩
    · simp only [h1, cond_true]
    · simp only [h1, ne a h1, cond_true, cond_false]
  | false =>
  obtain rfl := eq0 a h1
  cases h2 : b != 0 with
  | true =>
    refine ⟨[], b, ?_, ?_, h0⟩
    · simp only [h2, z1, cond_true, cond_false]
    · simp only [h2, ne b h2, z0, cond_true, cond_false]
  | false =>
  obtain rfl := eq0 b h2
  cases h3 : c != 0 with
  | true =>
    refine ⟨[], c, ?_, ?_, h0⟩
    · simp only [h3, z1, cond_true, cond_false]
    · simp only [h3, ne c h3, z0, cond_true, cond_false]
  | false =>
  obtain rfl := eq0 c h3
  have oA := formsOk_of hA h9 hn' ha
  have oB := formsOk_of hB h9 hn' hb
  have oC := formsOk_of hC h9 hn' hc
  rw [f214_eq hz1 oA oB hn', f214_eq hz2 oB oC hn']
  simp only [Option.bind_some, z0, z1, cond_true, cond_false]
  cases h4 : rulesE A B L != 0 with
  | true =>
    refine ⟨[], rulesE A B L, ?_, ?_, h0⟩
    · simp only [h4, cond_true]
    · simp only [h4, ne _ h4, cond_true, cond_false]
  | false =>
  have e4 := eq0 _ h4
  rw [e4]
  simp only [z0, z1, cond_true, cond_false]
  cases h5 : rulesE B C M != 0 with
  | true =>
    refine ⟨[], rulesE B C M, ?_, ?_, h0⟩
    · simp only [cond_true]
    · simp only [h5, cond_true]
  | false =>
  have e5 := eq0 _ h5
  simp only [h5, cond_false]
  rw [f38_l oB hz1 hz2 e4 e5 hn, f205_l oB hz1 hz2 e4 e5 hn]
  cases hf : fin (ruleMk A B L M) A.length 0 [] with
  | inr u => exact ⟨[], 5, rfl, rfl, h0⟩
  | inl l => exact ⟨l, 0, rfl, rfl, ruleMk_sz oB hz1 hz2 e4 e5 hf⟩
end
end Go.Proofs
end
section
namespace Go.Proofs
open Go.Vm
end Go.Proofs
end
section
namespace Go.Proofs
open Go.Vm
theorem f13_tot {l : List Form} {n : Nat} (hz : FormSz n l) (hn : n < 4611686018427387904) : ∃ r, f13 n l = some r := by
  have hK : ∃ r, f13_k3 l = some r := by
    unfold f13_k3 f13_k128
    cases decide (len l ≤ 6) <;> cases decide (len l > 24) <;> exact ⟨_, rfl⟩
  obtain ⟨K, hK⟩ := hK
  have hl := hz.1
  have inner : ∀ (k : Nat) (hk : k < l.length) (A : Option Bool), (∃ r, f13_l90 l[k] l k A n 0 = some r) ∨ f13_l90 l[k] l k A n 0 = A := fun k hk A => by
    have hg : gi l (k : Int) = some l[k] := by rw [gi_nat, List.getElem?_eq_getElem hk]
    have hc := (hz.2 _ (List.getElem_mem hk)).2.1
    have key : ∀ (d j m : Nat), d + j = l[k].fCols.length → d < m → (∃ r, f13_l90 l[k] l k A m j = some r) ∨ f13_l90 l[k] l k A m j = A := by
      intro d
      induction d with
      | zero =>
        intro j m hj hm
        obtain ⟨m, rfl⟩ := Nat.exists_eq_succ_of_ne_zero (by omega : m ≠ 0)
        right
        rw [f13_l90.eq_2]
        have h1 : decide ((j : Int) < len l[k].fCols) = false := by simp [len]; omega
        rw [h1]; rfl
      | succ d ih =>
        intro j m hj hm
        obtain ⟨m, rfl⟩ := Nat.exists_eq_succ_of_ne_zero (by omega : m ≠ 0)
        have hj2 : j < l[k].fCols.length := by omega
        have h1 : decide ((j : Int) < len l[k].fCols) = true := by simp [len]; omega
        have e0 : wr .i64 ((j : Int) + 1) = ((j + 1 : Nat) : Int) := by rw [wr_id (by omega) (by omega)]; omega
        have := ih (j + 1) m (by omega) (by omega)
        rw [f13_l90.eq_2, h1, hg]
        simp only [cond_true, Option.bind_some, gi_nat, List.getElem?_eq_getElem hj2, f13_k115, e0]
        cases decide (bsz l[k].fCols[j].fName > 30) <;> cases decide (bsz l[k].fCols[j].fClass > 30) <;> first | exact this | exact .inl ⟨_, rfl⟩
    exact key l[k].fCols.length 0 n (by omega) hc
  unfold f13
  rw [hK]
  refine scanTot l.length (fun m (_ : Unit) k => f13_l6 l n (some K) m k) (fun m k v hk => ?_) (fun m v => ?_) l.length 0 n () (by omega) hl
  · show (∃ r, f13_l6 l n (some K) (m + 1) k = some r) ∨ ∃ v' : Unit, f13_l6 l n (some K) (m + 1) k = f13_l6 l n (some K) m ((k + 1 : Nat) : Int)
    rw [f13_l6.eq_2]
    have h1 : decide ((k : Int) < len l) = true := by simp [len]; omega
    have e0 : wr .i64 ((k : Int) + 1) = ((k + 1 : Nat) : Int) := by rw [wr_id (by omega) (by omega)]; omega
    have hg : gi l (k : Int) = some l[k] := by rw [gi_nat, List.getElem?_eq_getElem hk]
    rw [h1, hg]
    simp only [cond_true, Option.bind_some, f13_k79]
    have hi : (∃ r, f13_l90 l[k] l k (f13_k72 k (f13_l6 l n (some K) m)) n 0 = some r) ∨ f13_l90 l[k] l k (f13_k72 k (f13_l6 l n (some K) m)) n 0 = f13_l6 l n (some K) m ((k + 1 : Nat) : Int) := by
      have := inner k hk (f13_k72 k (f13_l6 l n (some K) m))
      rw [show f13_k72 (k : Int) (f13_l6 l n (some K) m) = f13_l6 l n (some K) m ((k + 1 : Nat) : Int) by unfold f13_k72; rw [e0]] at this ⊢
      exact this
    have hi2 : (∃ r, f13_l90 l[k] l k (f13_k72 k (f13_l6 l n (some K) m)) n 0 = some r) ∨ ∃ v' : Unit, f13_l90 l[k] l k (f13_k72 k (f13_l6 l n (some K) m)) n 0 = f13_l6 l n (some K) m ((k + 1 : Nat) : Int) := hi.imp id fun h => ⟨(), h⟩
    cases decide (bsz l[k].fName > 30) <;> cases decide (len l[k].fCols > 6) <;> cases decide (len l[k].fCols ≤ 30) <;> cases decide (len l[k].fCols > 40) <;> first | exact hi2 | exact .inl ⟨_, rfl⟩
  · show ∃ r, f13_l6 l n (some K) (m + 1) (l.length : Int) = some r
    rw [f13_l6.eq_2]
    have h1 : decide ((l.length : Int) < len l) = false := by simp [len]
    rw [h1]; exact ⟨_, rfl⟩
end Go.Proofs
end
section
set_option linter.unusedVariables false
namespace Go.Proofs
open Go.Vm
theorem f15_tt : f15 40 = some true := rfl
theorem Val.eqB_refl (a : Val) : Val.eqB a a = true := by unfold Val.eqB; simp
theorem bytes_refl (a : ByteArray) : (a == a) = true := by
  show (a.data == a.data) = true
  simp
theorem Refusal.eqB_refl (a : Refusal) : Refusal.eqB a a = true := by unfold Refusal.eqB; rw [bytes_refl]; simp
theorem scan1 {ρ : Type} (N : Nat) (K : Option ρ) (L : Nat → Int → Option ρ) (hL : ∀ m (k : Nat), k < N → L (m + 1) k = L m (wr .i64 (k + 1))) (hK : ∀ m, L (m + 1) N = K) (hl : N < 4611686018427387904) {n : Nat} (hn : N < n) : L n 0 = K := by
  have h := scanN N K (fun _ acc => acc) L hL hK hl N 0 n (by omega) hn
  have hg : ∀ d k, goN (fun _ (acc : Option ρ) => acc) K d k = K := fun d => by
    induction d with
    | zero => intro k; rfl
    | succ d ih => intro k; exact ih (k + 1)
  exact h.trans (hg N 0)
theorem f31_tot {n : Nat} {L : List Rule} (hL : L.length < n) (hn : n < 4611686018427387904) : ∃ r, f31 n L = some r := by
  have hK : ∃ r, f31_k3 L = some r := by
    unfold f31_k3 f31_k32
    cases decide (len L ≤ 8) <;> cases decide (len L > 24) <;> exact ⟨_, rfl⟩
  unfold f31
  have h := scanN L.length (f31_k3 L) (fun k acc => match L[k]? with | some r => bif decide (len r.fGives > 8) then some false else acc | none => none) (f31_l6 L (f31_k3 L)) (fun m k hk => by
    rw [f31_l6.eq_2, lt_len L k hk, gi_nat]
    simp only [List.getElem?_eq_getElem hk, Option.bind_some, cond_true]) (fun m => by rw [f31_l6.eq_2, ge_len]; rfl) (by omega) L.length 0 n (by omega) hL
  have h' : f31_l6 L (f31_k3 L) n 0 = _ := h
  rw [h']
  refine goN_tot _ L.length (fun k acc hk ha => ?_) L.length 0 _ (by omega) hK
  simp only [List.getElem?_eq_getElem hk]
  cases decide (len L[k].fGives > 8)
  · exact ha
  · exact ⟨_, rfl⟩
theorem formSz_ok2 {l : List Form} {B n : Nat} (h : l.length ≤ B ∧ ∀ y ∈ l, Form.ok B y) (hn : B < n) : FormSz n l :=
  ⟨by omega, fun f hf => ⟨by have := (h.2 f hf).1; omega, by have := (h.2 f hf).2.1; omega, fun c hc => by have := ((h.2 f hf).2.2 c hc).1; omega⟩⟩
end Go.Proofs
end
section
set_option linter.unusedVariables false
namespace Go.Proofs
open Go.Vm
theorem Give.eqB_refl (a : Give) : Give.eqB a a = true := by unfold Give.eqB; rw [bytes_refl]; simp
theorem f206_refl {n : Nat} {l : List Rule} (h : RulesSz n l) (hn : n < 4611686018427387904) : f206 n l l = some true := by
  have hl := h.ln
  unfold f206
  rw [bne_len, beq_self_eq_true]
  exact scan1 l.length f206_k10 (f206_l13 l l n f206_k10) (fun m k hk => by
    have hx : l[k]? = some l[k] := List.getElem?_eq_getElem hk
    rw [f206_l13.eq_2, lt_len l k hk, gi_nat, hx]
    have hg := h.gv _ (List.getElem_mem hk)
    simp only [Option.bind_some, cond_true, sEqF_refl, Bool.not_true, cond_false]
    rw [bne_len, beq_self_eq_true]
    unfold f206_k95
    simp only [Bool.not_true, cond_false]
    rw [scan1 l[k].fGives.length (f206_k92 k (f206_l13 l l n f206_k10 m)) (f206_l119 l k l (f206_k92 k (f206_l13 l l n f206_k10 m))) (fun m' j hj => by
      rw [f206_l119.eq_2, gi_nat, hx]
      simp only [Option.bind_some]
      rw [lt_len _ j hj, gi_nat]
      simp only [List.getElem?_eq_getElem hj, Option.bind_some, cond_true, Give.eqB_refl, Bool.not_true, cond_false])
      (fun m' => by
        rw [f206_l119.eq_2, gi_nat, hx]
        simp only [Option.bind_some]
        rw [ge_len]; rfl) (by omega) hg]
    rfl)
    (fun m => by rw [f206_l13.eq_2, ge_len]; rfl) (by omega) hl
theorem f201_true {n : Nat} {A B C : List Form} {L M : List Rule} (hA : FormSz n A) (hB : FormSz n B) (hC : FormSz n C) (hL : L.length < n) (hM : M.length < n) (h9 : 100 < n) (hn : n < 1000000000) : f201 n A B C L M = some true := by
  have hn' : n < 4611686018427387904 := by omega
  have h1 : f201_k8 n A B C L M true = some true := by unfold f201_k8; rw [f15_tt]; rfl
  obtain ⟨l, e, h2, h3, h4⟩ := f38_f205 hA hB hC hL hM h9 hn
  have h5 : ∀ c, f201_k8 n A B C L M c = some true := fun c => by
    cases c
    · unfold f201_k8
      rw [f15_tt, h2, h3]
      simp only [Option.bind_some, cond_false]
      rw [f206_refl h4 hn']
      simp only [Option.bind_some, beq_self_eq_true, cond_true]
      rfl
    · exact h1
  obtain ⟨a, ha⟩ := f13_tot hA hn'
  obtain ⟨b, hb⟩ := f13_tot hB hn'
  obtain ⟨c, hc⟩ := f13_tot hC hn'
  obtain ⟨d, hd⟩ := f31_tot hL hn'
  obtain ⟨g, hg⟩ := f31_tot hM hn'
  unfold f201
  rw [ha, hb, hc, hd, hg]
  cases a <;> cases b <;> cases c <;> cases d <;> simp [h5]
theorem packChainsplain {A B C : List Form} {L M : List Rule} (hA : A.length ≤ 1048576 ∧ ∀ y ∈ A, Form.ok 1048576 y) (hB : B.length ≤ 1048576 ∧ ∀ y ∈ B, Form.ok 1048576 y) (hC : C.length ≤ 1048576 ∧ ∀ y ∈ C, Form.ok 1048576 y)
    (hL : L.length ≤ 1048576 ∧ ∀ y ∈ L, Rule.ok 1048576 y) (hM : M.length ≤ 1048576 ∧ ∀ y ∈ M, Rule.ok 1048576 y) : ∃ n, f201 n A B C L M = some true :=
  ⟨4194304, f201_true (formSz_ok2 hA (by decide)) (formSz_ok2 hB (by decide)) (formSz_ok2 hC (by decide)) (by omega) (by omega) (by decide) (by decide)⟩
end Go.Proofs
end
