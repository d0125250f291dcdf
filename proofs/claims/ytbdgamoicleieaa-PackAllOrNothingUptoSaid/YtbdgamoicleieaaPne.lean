/- Texts of this claim, one behind the other. -/
import Derived.Test.YtbdgamoicleieaaPnd
import Derived.ChangeFn
import Derived.Carry
import Derived.ChangeSame
import Derived.RowKit
import Derived.OpenShut
import Derived.ChangeShapes
import Derived.KernelRfl
set_option linter.unusedVariables false
set_option linter.unusedSimpArgs false
set_option linter.unnecessarySimpa false
section
namespace Go.Proofs
open Go.Vm
def goN {ρ : Type} (B : Nat → Option ρ → Option ρ) (K : Option ρ) : Nat → Nat → Option ρ
  | 0, _ => K
  | d + 1, k => B k (goN B K d (k + 1))
theorem scanN {ρ : Type} (N : Nat) (K : Option ρ) (B : Nat → Option ρ → Option ρ) (L : Nat → Int → Option ρ) (hL : ∀ m (k : Nat), k < N → L (m + 1) k = B k (L m (wr .i64 (k + 1)))) (hK : ∀ m, L (m + 1) N = K) (hl : N < 4611686018427387904) :
    ∀ (d k m : Nat), d + k = N → d < m → L m k = goN B K d k
  | 0, k, m, hk, hm => by
    obtain ⟨m, rfl⟩ := Nat.exists_eq_succ_of_ne_zero (by omega : m ≠ 0)
    have : k = N := by omega
    subst this
    exact hK m
  | d + 1, k, m, hk, hm => by
    obtain ⟨m, rfl⟩ := Nat.exists_eq_succ_of_ne_zero (by omega : m ≠ 0)
    rw [hL m k (by omega), wr_id (by omega) (by omega)]
    have := scanN N K B L hL hK hl d (k + 1) m (by omega) (by omega)
    push_cast at this
    rw [this]; rfl
theorem si_get (s : ByteArray) (k : Nat) : si s (k : Int) = (s.data.toList[k]?).map fun c => (c.toNat : Int) := by
  show (s[k]?).map _ = _
  congr 1
  obtain ⟨⟨l⟩⟩ := s
  by_cases h : k < l.length
  · rw [List.getElem?_eq_getElem h]
    have h' : k < (ByteArray.mk ⟨l⟩).size := h
    rw [getElem?_pos (ByteArray.mk ⟨l⟩) k h']
    rfl
  · have h9 : l[k]? = none := List.getElem?_eq_none (by omega)
    show _ = l[k]?
    rw [h9]
    have h' : ¬ k < (ByteArray.mk ⟨l⟩).size := h
    rw [getElem?_neg (ByteArray.mk ⟨l⟩) k h']
theorem goN_all {ρ : Type} (l : List UInt8) (p : UInt8 → Bool) (K F : Option ρ) : ∀ (d k : Nat), d + k = l.length → goN (fun k acc => match l[k]? with | some c => bif p c then acc else F | none => none) K d k = bif (l.drop k).all p then K else F
  | 0, k, h => by
    have : l.drop k = [] := List.drop_eq_nil_of_le (by omega)
    rw [this]; rfl
  | d + 1, k, h => by
    have hlt : k < l.length := by omega
    rw [List.drop_eq_getElem_cons hlt, List.all_cons]
    show (match l[k]? with | some c => bif p c then goN _ K d (k + 1) else F | none => none) = _
    rw [List.getElem?_eq_getElem hlt]
    show (bif p l[k] then goN _ K d (k + 1) else F) = _
    rw [goN_all l p K F d (k + 1) (by omega)]
    cases p l[k] <;> rfl
theorem f56_l {s : ByteArray} {K : Option Bool} {n : Nat} (hn : s.size < n) (hl : s.size < 4611686018427387904) : f56_l18 s K n 0 = bif s.data.toList.all (fun c => okB c.toNat 97 122) then K else some false := by
  have hlen := lenS s
  have := scanN s.size K (fun k acc => match s.data.toList[k]? with | some c => bif okB c.toNat 97 122 then acc else some false | none => none) (f56_l18 s K) (fun m k hk => ?_) (fun m => ?_) hl s.size 0 n (by omega) hn
  · have h2 := goN_all s.data.toList (fun c => okB c.toNat 97 122) K (some false) s.size 0 (by omega)
    exact this.trans h2
  · rw [f56_l18.eq_2]
    have h1 : decide ((k : Int) < bsz s) = true := by simp [bsz]; omega
    rw [h1, si_get, List.getElem?_eq_getElem (by omega)]
    simp only [cond_true, Option.map_some, Option.bind_some]
    generalize ((s.data.toList[k]'(by omega)).toNat : Int) = c
    unfold okB f56_k61
    show (bif decide (97 ≤ c) then (bif decide (c ≤ 122) then _ else (bif decide (48 ≤ c) then (bif decide (c ≤ 57) then _ else _) else _)) else (bif decide (48 ≤ c) then (bif decide (c ≤ 57) then _ else _) else _)) = _
    cases decide (97 ≤ c) <;> cases decide (c ≤ 122) <;> cases decide (48 ≤ c) <;> cases decide (c ≤ 57) <;> cases (c == 95) <;> rfl
  · rw [f56_l18.eq_2]
    have h1 : decide ((s.size : Int) < bsz s) = false := by simp [bsz]
    rw [h1]; rfl
end Go.Proofs
end
section
namespace Go.Proofs
open Go.Vm
theorem f56_k15_eq (s : ByteArray) : f56_k15 s = some (!smallKw.any fun x => sEqF s x) := by
  unfold f56_k15 f56_k92 smallKw
  simp only [List.any_cons, List.any_nil]
  cases sEqF s (ByteArray.mk #[116, 114, 117, 101]) <;> cases sEqF s (ByteArray.mk #[102, 97, 108, 115, 101]) <;> cases sEqF s (ByteArray.mk #[118, 111, 105, 100]) <;> cases sEqF s (ByteArray.mk #[99, 117, 114, 114, 101, 110, 116]) <;> cases sEqF s (ByteArray.mk #[114, 101, 115, 117, 108, 116]) <;> rfl
theorem f56_eq {n : Nat} {s : ByteArray} (hn : s.size < n) (hl : s.size < 4611686018427387904) : f56 n s = some (smallB s) := by
  have hsz := lenS s
  have eb : bsz s = (s.data.toList.length : Int) := by unfold bsz; rw [hsz]
  unfold f56
  rw [si_zero, eb]
  simp only [f56_k4, f56_l hn hl, f56_k15_eq, cond_true, cond_false]
  unfold smallB
  cases hd : s.data.toList with
  | nil => rfl
  | cons c t =>
    have b0 : decide (((c :: t).length : Int) < 1) = false := by simp; omega
    rw [b0]
    simp only [cond_false, List.head?_cons, Option.map_some, Option.bind_some]
    show _ = some ((decide (((c :: t).length : Int) ≤ 20) && (decide (97 ≤ (c.toNat : Int)) && (decide ((c.toNat : Int) ≤ 122) && (c :: t).all fun c => okB c.toNat 97 122))) && _)
    generalize ((c :: t).all fun c => okB c.toNat 97 122) = A
    generalize (!smallKw.any fun x => sEqF s x) = W
    by_cases a1 : ((c :: t).length : Int) ≤ 20
    · have b1 : decide (((c :: t).length : Int) > 20) = false := by simp at a1 ⊢; omega
      have b2 : decide (((c :: t).length : Int) ≤ 20) = true := by simpa using a1
      rw [b1, b2]
      by_cases a2 : 97 ≤ (c.toNat : Int)
      · have b3 : decide ((c.toNat : Int) < 97) = false := by simp; omega
        have b5 : decide (97 ≤ (c.toNat : Int)) = true := by simpa using a2
        rw [b3, b5]
        by_cases a3 : (c.toNat : Int) ≤ 122
        · have b4 : decide ((c.toNat : Int) > 122) = false := by simp; omega
          have b6 : decide ((c.toNat : Int) ≤ 122) = true := by simpa using a3
          rw [b4, b6]; cases A <;> cases W <;> rfl
        · have b4 : decide ((c.toNat : Int) > 122) = true := by simp; omega
          have b6 : decide ((c.toNat : Int) ≤ 122) = false := by simpa using a3
          rw [b4, b6]; cases A <;> cases W <;> rfl
      · have b3 : decide ((c.toNat : Int) < 97) = true := by simp; omega
        have b5 : decide (97 ≤ (c.toNat : Int)) = false := by simpa using a2
        rw [b3, b5]; rfl
    · have b1 : decide (((c :: t).length : Int) > 20) = true := by simp at a1 ⊢; omega
      have b2 : decide (((c :: t).length : Int) ≤ 20) = false := by simpa using a1
      rw [b1, b2]; rfl
end Go.Proofs
end
section
namespace Go.Proofs
open Go.Vm
theorem go0_any {α : Type} (p : α → Bool) : ∀ (l : List α) (k : Nat), go0 (fun _ y acc => bif p y then some true else acc) (some false) l k = some (l.any p)
  | [], k => rfl
  | y :: l, k => by
    simp only [go0, List.any_cons]
    cases p y
    · exact go0_any p l (k + 1)
    · rfl
theorem f129_eq {n : Nat} {l : List ByteArray} {s : ByteArray} (hn : l.length < n) (hl : l.length < 4611686018427387904) : f129 n l s = some (l.any fun x => sEqF x s) := by
  unfold f129
  have := scan0 l f129_k4 (fun x y acc => bif sEqF y s then some true else acc) (f129_l7 l s f129_k4) (fun m x => rfl) hl l.length 0 n (by omega) hn
  exact this.trans (go0_any (fun x => sEqF x s) l 0)
theorem f148_eq (n : Nat) (c : Int) : f148 n c = some (decide (97 ≤ c) && decide (c ≤ 122)) := by
  unfold f148
  show (bif decide (97 ≤ c) then _ else _) = _
  cases decide (97 ≤ c) <;> rfl
theorem f149_eq (n : Nat) (c : Int) : f149 n c = some (decide (65 ≤ c) && decide (c ≤ 90)) := by
  unfold f149
  show (bif decide (65 ≤ c) then _ else _) = _
  cases decide (65 ≤ c) <;> rfl
theorem f132_eq (n : Nat) (c : Int) : f132 n c = some (decide (48 ≤ c) && decide (c ≤ 57)) := by
  unfold f132
  show (bif decide (48 ≤ c) then _ else _) = _
  cases decide (48 ≤ c) <;> rfl
def smallC (c : Int) : Bool := decide (97 ≤ c) && decide (c ≤ 122)
def capC (c : Int) : Bool := decide (65 ≤ c) && decide (c ≤ 90)
def digC (c : Int) : Bool := decide (48 ≤ c) && decide (c ≤ 57)
def partC (c : Int) : Bool := smallC c || (capC c || (digC c || (c == 95)))
theorem f146_eq (n : Nat) (c : Int) : f146 n c = some (partC c) := by
  unfold f146
  rw [f148_eq, f149_eq, f132_eq]
  show (bif smallC c then _ else (Option.bind (some (capC c)) _)) = some (smallC c || (capC c || (digC c || (c == 95))))
  cases smallC c
  · show (bif capC c then _ else (Option.bind (some (digC c)) _)) = _
    cases capC c
    · show (bif digC c then _ else _) = _
      cases digC c <;> rfl
    · rfl
  · rfl
theorem okB_cap (c : Int) : okB c 65 90 = (capC c || (digC c || (c == 95))) := rfl
theorem partC_ok (c : Int) (h : smallC c = false) : partC c = okB c 65 90 := by unfold partC; rw [h, okB_cap]; rfl
theorem okB_part (c : Int) (h : okB c 65 90 = true) : partC c = true ∧ smallC c = false := by
  rw [okB_cap] at h
  refine ⟨by unfold partC; rw [h, Bool.or_true], ?_⟩
  unfold smallC
  unfold capC digC at h
  simp only [Bool.or_eq_true, Bool.and_eq_true, decide_eq_true_eq, beq_iff_eq] at h
  simp only [Bool.and_eq_false_iff, decide_eq_false_iff_not]
  omega
end Go.Proofs
end
section
namespace Go.Proofs
open Go.Vm
theorem goN_run (l : List UInt8) (p : UInt8 → Bool) : ∀ (d k : Nat), d + k = l.length → ∃ r : Int, goN (fun k acc => match l[k]? with | some c => bif p c then acc else some (k : Int) | none => none) (some (l.length : Int)) d k = some r ∧ decide (r < (l.length : Int)) = !(l.drop k).all p
  | 0, k, h => by
    have h0 : l.drop k = [] := List.drop_eq_nil_of_le (by omega)
    exact ⟨(l.length : Int), rfl, by rw [h0]; simp⟩
  | d + 1, k, h => by
    have hlt : k < l.length := by omega
    rw [List.drop_eq_getElem_cons hlt, List.all_cons]
    show ∃ r : Int, (match l[k]? with | some c => bif p c then goN _ _ d (k + 1) else some (k : Int) | none => none) = some r ∧ _
    rw [List.getElem?_eq_getElem hlt]
    show ∃ r : Int, (bif p l[k] then goN _ _ d (k + 1) else some (k : Int)) = some r ∧ _
    cases p l[k] with
    | true =>
      obtain ⟨r, h1, h2⟩ := goN_run l p d (k + 1) (by omega)
      exact ⟨r, h1, by rw [h2, Bool.true_and]⟩
    | false => exact ⟨k, rfl, by simp; omega⟩
theorem f131_eq {n : Nat} {s : ByteArray} (hn : s.size < n) (hl : s.size < 4611686018427387904) : ∃ r, f131 n s 0 = some r ∧ decide (r < bsz s) = !s.data.toList.all fun c => partC c.toNat := by
  have hlen := lenS s
  obtain ⟨r, h1, h2⟩ := goN_run s.data.toList (fun c => partC c.toNat) s.size 0 (by omega)
  refine ⟨r, ?_, ?_⟩
  · unfold f131
    refine Eq.trans (scanN s.size (some (s.data.toList.length : Int)) (fun k acc => match s.data.toList[k]? with | some c => bif partC c.toNat then acc else some (k : Int) | none => none) (f131_l7 0 s n f131_k5) (fun m k hk => ?_) (fun m => ?_) hl s.size 0 n (by omega) hn) h1
    · rw [f131_l7.eq_2]
      have e0 : wr .i64 (0 + (k : Int)) = k := by rw [wr_id (by omega) (by omega)]; omega
      have h1 : decide ((k : Int) < bsz s) = true := by simp [bsz]; omega
      rw [e0, h1, si_get, List.getElem?_eq_getElem (by omega)]
      simp only [cond_true, Option.map_some, Option.bind_some, f146_eq, f131_k20, f131_k5]
    · rw [f131_l7.eq_2]
      have e0 : wr .i64 (0 + (s.size : Int)) = s.size := by rw [wr_id (by omega) (by omega)]; omega
      have h1 : decide ((s.size : Int) < bsz s) = false := by simp [bsz]
      rw [e0, h1]
      show some (s.size : Int) = _
      rw [hlen]
  · rw [List.drop_zero] at h2
    rw [← h2]
    unfold bsz
    rw [hlen]
end Go.Proofs
end
section
namespace Go.Proofs
open Go.Vm
theorem scanTot {σ ρ : Type} (N : Nat) (L : Nat → σ → Int → Option ρ) (hL : ∀ m (k : Nat) v, k < N → (∃ r, L (m + 1) v k = some r) ∨ ∃ v', L (m + 1) v k = L m v' ((k + 1 : Nat) : Int)) (hK : ∀ m v, ∃ r, L (m + 1) v N = some r) :
    ∀ (d k m : Nat) (v : σ), d + k = N → d < m → ∃ r, L m v k = some r
  | 0, k, m, v, hk, hm => by
    obtain ⟨m, rfl⟩ := Nat.exists_eq_succ_of_ne_zero (by omega : m ≠ 0)
    have : k = N := by omega
    subst this
    exact hK m v
  | d + 1, k, m, v, hk, hm => by
    obtain ⟨m, rfl⟩ := Nat.exists_eq_succ_of_ne_zero (by omega : m ≠ 0)
    rcases hL m k v (by omega) with h | ⟨v', h⟩
    · exact h
    · rw [h]; exact scanTot N L hL hK d (k + 1) m v' (by omega) (by omega)
theorem f133_tot {n : Nat} {s : ByteArray} (h0 : 0 < s.size) (hn : s.size < n) (hl : s.size < 4611686018427387904) : ∃ r, f133 n s = some r := by
  have hlen := lenS s
  have two : ∀ x : Int, ∃ r, f133_l44 s f133_k41 n x 0 = some r := fun x => by
    refine scanTot s.size (fun m (v : Int) k => f133_l44 s f133_k41 m v k) (fun m k v hk => ?_) (fun m v => ?_) s.size 0 n x (by omega) hn
    · show (∃ r, f133_l44 s f133_k41 (m + 1) v k = some r) ∨ ∃ v', f133_l44 s f133_k41 (m + 1) v k = f133_l44 s f133_k41 m v' ((k + 1 : Nat) : Int)
      rw [f133_l44.eq_2]
      have h1 : decide ((k : Int) < bsz s) = true := by simp [bsz]; omega
      rw [h1, si_get, List.getElem?_eq_getElem (by omega)]
      simp only [cond_true, Option.map_some, Option.bind_some]
      have e0 : wr .i64 ((k : Int) + 1) = ((k + 1 : Nat) : Int) := by rw [wr_id (by omega) (by omega)]; omega
      rw [e0]
      generalize wr .i64 (wr .i64 (wr .i64 (10 * v) + _) - 48) = q
      cases decide (q > 1099511627776)
      · exact .inr ⟨q, rfl⟩
      · exact .inl ⟨_, rfl⟩
    · show ∃ r, f133_l44 s f133_k41 (m + 1) v (s.size : Int) = some r
      rw [f133_l44.eq_2]
      have h1 : decide ((s.size : Int) < bsz s) = false := by simp [bsz]
      rw [h1]; exact ⟨_, rfl⟩
  have k3 : ∃ r, f133_k3 s n = some r := by
    unfold f133_k3
    have e := si_get s 0
    rw [List.getElem?_eq_getElem (by omega)] at e
    have e2 : si s 0 = some ((s.data.toList[0]'(by omega)).toNat : Int) := e
    rw [e2]
    simp only [Option.bind_some, f133_k33]
    obtain ⟨r, hr⟩ := two 0
    rw [hr]
    cases ((s.data.toList[0]'(by omega)).toNat : Int) == 48 <;> cases decide (bsz s > 1) <;> exact ⟨_, rfl⟩
  unfold f133
  obtain ⟨r3, h3⟩ := k3
  rw [h3]
  refine scanTot s.size (fun m (_ : Unit) k => f133_l6 s n (some r3) m k) (fun m k v hk => ?_) (fun m v => ?_) s.size 0 n () (by omega) hn
  · show (∃ r, f133_l6 s n (some r3) (m + 1) k = some r) ∨ ∃ v' : Unit, f133_l6 s n (some r3) (m + 1) k = f133_l6 s n (some r3) m ((k + 1 : Nat) : Int)
    rw [f133_l6.eq_2]
    have h1 : decide ((k : Int) < bsz s) = true := by simp [bsz]; omega
    rw [h1, si_get, List.getElem?_eq_getElem (by omega)]
    simp only [cond_true, Option.map_some, Option.bind_some, f132_eq]
    have e0 : wr .i64 ((k : Int) + 1) = ((k + 1 : Nat) : Int) := by rw [wr_id (by omega) (by omega)]; omega
    rw [e0]
    generalize ((s.data.toList[k]'(by omega)).toNat : Int) = c
    cases (decide (48 ≤ c) && decide (c ≤ 57))
    · exact .inl ⟨_, rfl⟩
    · exact .inr ⟨(), rfl⟩
  · show ∃ r, f133_l6 s n (some r3) (m + 1) (s.size : Int) = some r
    rw [f133_l6.eq_2]
    have h1 : decide ((s.size : Int) < bsz s) = false := by simp [bsz]
    rw [h1]; exact ⟨_, rfl⟩
end Go.Proofs
end
section
namespace Go.Proofs
open Go.Vm
theorem f134_l {s : ByteArray} {n : Nat} {K : Bool → Bool → Option KE} (hl : s.size < 4611686018427387904) : ∀ (d k m : Nat) (lo hi : Bool), d + k = s.size → d < m →
    f134_l26 s n K m lo hi k = K (lo || (s.data.toList.drop k).any fun c => smallC c.toNat) (hi || (s.data.toList.drop k).any fun c => capC c.toNat)
  | 0, k, m, lo, hi, hk, hm => by
    obtain ⟨m, rfl⟩ := Nat.exists_eq_succ_of_ne_zero (by omega : m ≠ 0)
    have hlen := lenS s
    have h0 : s.data.toList.drop k = [] := List.drop_eq_nil_of_le (by omega)
    have h1 : decide ((k : Int) < bsz s) = false := by simp [bsz]; omega
    rw [f134_l26.eq_2, h1, h0]
    simp
  | d + 1, k, m, lo, hi, hk, hm => by
    obtain ⟨m, rfl⟩ := Nat.exists_eq_succ_of_ne_zero (by omega : m ≠ 0)
    have hlen := lenS s
    have hlt : k < s.data.toList.length := by omega
    have h1 : decide ((k : Int) < bsz s) = true := by simp [bsz]; omega
    have e0 : wr .i64 ((k : Int) + 1) = ((k + 1 : Nat) : Int) := by rw [wr_id (by omega) (by omega)]; omega
    have ih := fun lo hi => f134_l (n := n) (K := K) hl d (k + 1) m lo hi (by omega) (by omega)
    have es : si s (k : Int) = some ((s.data.toList[k]).toNat : Int) := by rw [si_get, List.getElem?_eq_getElem hlt]; rfl
    rw [f134_l26.eq_2, h1, List.drop_eq_getElem_cons hlt, List.any_cons, List.any_cons]
    simp only [cond_true, es, Option.bind_some, f148_eq, f149_eq, f134_k49, f134_k47, e0, ih]
    show (bif lo then (bif hi then _ else _) else (bif hi then _ else _)) = _
    cases lo <;> cases hi <;> simp [smallC, capC]
end Go.Proofs
end
section
namespace Go.Proofs
open Go.Vm
def kwL : List ByteArray := (f147 0).getD []
def signL : List ByteArray := (f130 0).getD []
def trueL : List ByteArray := [(ByteArray.mk #[84, 114, 117, 101]), (ByteArray.mk #[70, 97, 108, 115, 101]), (ByteArray.mk #[86, 111, 105, 100]), (ByteArray.mk #[67, 117, 114, 114, 101, 110, 116]), (ByteArray.mk #[82, 101, 115, 117, 108, 116])]
def hasB (l : List ByteArray) (s : ByteArray) : Bool := l.any fun x => sEqF x s
def wordR (s : ByteArray) : KE :=
  bif hasB kwL s then KE.mk 3 0 else bif hasB trueL s then KE.mk 3 0 else bif hasB smallKw s then KE.mk 0 4 else
  bif (s.data.toList.any fun c => smallC c.toNat) && (s.data.toList.any fun c => capC c.toNat) then KE.mk 0 2 else bif decide (bsz s > 20) then KE.mk 0 3 else bif s.data.toList.any fun c => smallC c.toNat then KE.mk 1 0 else KE.mk 2 0
theorem f134_eq {n : Nat} {s : ByteArray} (hn : s.size < n) (h9 : 100 < n) (hl : s.size < 4611686018427387904) : f134 n s = some (wordR s) := by
  have hK : f129 n kwL s = some (hasB kwL s) := f129_eq (by have : kwL.length < 50 := by decide
                                                            omega) (by decide)
  have hT : f129 n trueL s = some (hasB trueL s) := f129_eq (by have : trueL.length < 50 := by decide
                                                                omega) (by decide)
  have hS : f129 n smallKw s = some (hasB smallKw s) := f129_eq (by have : smallKw.length < 50 := by decide
                                                                    omega) (by decide)
  have key : f134 n s = (f129 n kwL s).bind fun r7 => (bif r7 then f134_k4 n s true else (f129 n trueL s).bind fun r10 => f134_k4 n s r10) := rfl
  have k4 : ∀ x, f134_k4 n s x = (bif x then some (KE.mk 3 0) else (f129 n smallKw s).bind fun r17 => (bif r17 then some (KE.mk 0 4) else f134_l26 s n (f134_k23 s) n false false 0)) := fun x => rfl
  have hw := f134_l (s := s) (n := n) (K := f134_k23 s) hl s.size 0 n false false (by omega) hn
  have hw2 : f134_l26 s n (f134_k23 s) n false false 0 = _ := hw
  rw [key, hK, Option.bind_some, hT, Option.bind_some]
  simp only [k4, hS, Option.bind_some, hw2, List.drop_zero, Bool.false_or, f134_k23, f134_k66]
  unfold wordR
  cases hasB kwL s <;> cases hasB trueL s <;> cases hasB smallKw s <;> cases (s.data.toList.any fun c => smallC c.toNat) <;> cases (s.data.toList.any fun c => capC c.toNat) <;> cases decide (bsz s > 20) <;> rfl
end Go.Proofs
end
section
namespace Go.Proofs
open Go.Vm
def isClassKE (r : KE) : Bool := (r.fE == 0) && (r.fK == 2)
theorem sEqF_list {a b : ByteArray} (h : sEqF a b = true) : a.data.toList = b.data.toList := by
  unfold sEqF at h
  exact eq_of_beq h
theorem hasB_false {l : List ByteArray} {s : ByteArray} (hl : (l.all fun x => !namedL 65 90 x.data.toList) = true) (h : namedL 65 90 s.data.toList = true) : hasB l s = false := by
  unfold hasB
  rw [List.any_eq_false]
  intro x hx he
  have h1 := List.all_eq_true.1 hl x hx
  rw [sEqF_list he, h] at h1
  cases h1
theorem wordR_class {s : ByteArray} (hs : 0 < s.data.toList.length) : isClassKE (wordR s) = ((!hasB kwL s && !hasB trueL s && !hasB smallKw s) && (!(s.data.toList.any fun c => smallC c.toNat) && !decide (bsz s > 20))) := by
  unfold wordR
  cases hasB kwL s <;> cases hasB trueL s <;> cases hasB smallKw s <;> cases (s.data.toList.any fun c => smallC c.toNat) <;> cases (s.data.toList.any fun c => capC c.toNat) <;> cases decide (bsz s > 20) <;> rfl
theorem f96_class {n : Nat} {s : ByteArray} (hn : s.size < n) (h9 : 100 < n) (hl : s.size < 4611686018427387904) : ∃ r, f96 n s = some r ∧ isClassKE r = namedL 65 90 s.data.toList := by
  have hlen := lenS s
  have eb : bsz s = (s.data.toList.length : Int) := by unfold bsz; rw [hlen]
  have hSg : f129 n signL s = some (hasB signL s) := f129_eq (by have : signL.length < 50 := by decide
                                                                 omega) (by decide)
  have key : f96 n s = (f129 n signL s).bind fun r7 => (bif r7 then some (KE.mk 5 0) else (bif (bsz s == 0) then f96_k12 s n true else ((f131 n s 0).bind fun r14 => (bif decide (r14 < bsz s) then f96_k12 s n true else ((si s 0).bind fun c17 => f96_k12 s n (c17 == 95)))))) := rfl
  obtain ⟨rr, hr1, hr2⟩ := f131_eq hn hl
  rw [key, hSg, Option.bind_some, hr1]
  cases hd : s.data.toList with
  | nil =>
    have e0 : (bsz s == 0) = true := by rw [eb, hd]; rfl
    rw [e0]
    cases hasB signL s
    · exact ⟨_, rfl, rfl⟩
    · exact ⟨_, rfl, rfl⟩
  | cons c t =>
    have hpos : 0 < s.size := by rw [← hlen, hd]; simp
    have e0 : (bsz s == 0) = false := by rw [eb, hd]; simp; omega
    have es : si s 0 = some (c.toNat : Int) := by rw [si_zero, hd]; rfl
    rw [e0]
    simp only [cond_false, Option.bind_some, hr2, es, hd]
    obtain ⟨rn, hrn⟩ := f133_tot (n := n) hpos hn hl
    have hw := f134_eq hn h9 hl
    have kT : f96_k12 s n true = some (KE.mk 0 2) := rfl
    have kF : f96_k12 s n false = bif digC (c.toNat : Int) then (bif (rn.fE != 0) then some (KE.mk 0 rn.fE) else some (KE.mk 4 0)) else some (wordR s) := by
      unfold f96_k12
      rw [es, hrn, hw]
      simp only [cond_false, Option.bind_some, f132_eq]
      rfl
    cases hN : namedL 65 90 (c :: t) with
    | true =>
      have hN' : namedL 65 90 s.data.toList = true := by rw [hd]; exact hN
      have h1 := hasB_false (l := signL) (by decide) hN'
      have h2 := hasB_false (l := kwL) (by decide) hN'
      have h3 := hasB_false (l := trueL) (by decide) hN'
      have h4 := hasB_false (l := smallKw) (by decide) hN'
      unfold namedL at hN
      simp only [Bool.and_eq_true, decide_eq_true_eq] at hN
      obtain ⟨n1, n2, n3, n4⟩ := hN
      have hall : ((c :: t).all fun c => partC c.toNat) = true := List.all_eq_true.2 fun x hx => (okB_part _ (List.all_eq_true.1 n4 x hx)).1
      have hsm : ((c :: t).any fun c => smallC c.toNat) = false := List.any_eq_false.2 fun x hx h => by
        have := (okB_part _ (List.all_eq_true.1 n4 x hx)).2
        rw [this] at h; cases h
      have h95 : ((c.toNat : Int) == 95) = false := by simp; omega
      have hdg : digC (c.toNat : Int) = false := by unfold digC; simp; omega
      rw [h1, hall, h95, kF, hdg]
      refine ⟨wordR s, rfl, ?_⟩
      rw [wordR_class (by rw [hd]; simp), h2, h3, h4, hd, hsm, eb, hd]
      have : decide (((c :: t).length : Int) > 20) = false := by simp at n1 ⊢; omega
      rw [this]; rfl
    | false =>
      cases hsg : hasB signL s with
      | true => exact ⟨_, rfl, rfl⟩
      | false =>
        cases hall : ((c :: t).all fun c => partC c.toNat) with
        | false => exact ⟨_, rfl, rfl⟩
        | true =>
          cases h95 : ((c.toNat : Int) == 95) with
          | true => exact ⟨_, rfl, rfl⟩
          | false =>
            rw [kF]
            cases hdg : digC (c.toNat : Int) with
            | true => cases (rn.fE != 0) <;> exact ⟨_, rfl, by first | rfl | simp [isClassKE]⟩
            | false =>
              refine ⟨wordR s, rfl, ?_⟩
              cases hc : isClassKE (wordR s) with
              | false => rfl
              | true =>
                exfalso
                rw [wordR_class (by rw [hd]; simp), hd, eb, hd] at hc
                simp only [Bool.and_eq_true, Bool.not_eq_true', decide_eq_false_iff_not] at hc
                obtain ⟨_, hsm, h20⟩ := hc
                have hok : ((c :: t).all fun c => okB c.toNat 65 90) = true := List.all_eq_true.2 fun x hx => by
                  have p1 := List.all_eq_true.1 hall x hx
                  have p2 : smallC x.toNat = false := by
                    have := List.any_eq_false.1 hsm x hx
                    simpa using this
                  rw [← partC_ok _ p2]; exact p1
                have hc1 := List.all_eq_true.1 hok c (by simp)
                rw [okB_cap, hdg, h95] at hc1
                simp only [Bool.or_false] at hc1
                unfold capC at hc1
                simp only [Bool.and_eq_true, decide_eq_true_eq] at hc1
                have : namedL 65 90 (c :: t) = true := by
                  unfold namedL
                  simp only [Bool.and_eq_true, decide_eq_true_eq]
                  exact ⟨by omega, hc1.1, hc1.2, hok⟩
                rw [this] at hN; cases hN
end Go.Proofs
end
section
namespace Go.Proofs
open Go.Vm
theorem f54_eq {n : Nat} {s : ByteArray} (hn : s.size < n) (h9 : 100 < n) (hl : s.size < 4611686018427387904) : f54 n s = some (classB s) := by
  obtain ⟨r, h1, h2⟩ := f96_class hn h9 hl
  unfold f54 classB
  rw [h1, Option.bind_some, ← h2]
  unfold isClassKE f54_k6 classKw
  simp only [List.any_cons, List.any_nil]
  have comm : ∀ a b : ByteArray, sEqF a b = sEqF b a := fun a b => by unfold sEqF; exact Bool.beq_comm
  cases (r.fE == 0) <;> cases (r.fK == 2) <;> cases sEqF s (ByteArray.mk #[73, 78, 84, 69, 71, 69, 82]) <;> cases sEqF s (ByteArray.mk #[66, 79, 79, 76, 69, 65, 78]) <;> cases sEqF s (ByteArray.mk #[65, 78, 89]) <;> cases sEqF s (ByteArray.mk #[78, 79, 78, 69]) <;> rfl
end Go.Proofs
end
section
namespace Go.Proofs
open Go.Vm
def colE (pre : List Col) (c : Col) : Int :=
  bif !smallB c.fName then 4 else bif decide (colIx pre c.fName ≥ 0) then 6 else bif !(inR c.fKind 1 3) || (c.fKind != 3 && !(sEqF c.fClass (ByteArray.mk #[]))) then 1 else 0
def colsB (l : List Col) (k : Nat) (acc : Option Int) : Option Int := match l[k]? with
  | some c => bif colE (l.take k) c == 0 then acc else some (colE (l.take k) c)
  | none => none
theorem sli_take {α : Type} (l : List α) (k : Nat) (h : k ≤ l.length) : sli l 0 (k : Int) = some (l.take k) := by
  unfold sli
  have h1 : decide ((0 : Int) ≤ 0) = true := rfl
  have h2 : decide ((0 : Int) ≤ (k : Int)) = true := by simp
  have h3 : decide ((k : Int) ≤ (l.length : Int)) = true := by simpa using h
  rw [h1, h2, h3]
  simp
theorem f53_l {l : List Col} {K : Option Int} {n : Nat} (hs : ∀ c ∈ l, c.fName.size < n) (h9 : 100 < n) (hn : l.length < n) (hl : l.length < 4611686018427387904) : f53_l12 l n K n 0 = goN (colsB l) K l.length 0 := by
  refine scanN l.length K (colsB l) (f53_l12 l n K) (fun m k hk => ?_) (fun m => ?_) hl l.length 0 n (by omega) hn
  · rw [f53_l12.eq_2]
    have h1 : decide ((k : Int) < len l) = true := by simp [len]; omega
    rw [h1, gi_nat, List.getElem?_eq_getElem hk]
    simp only [cond_true, Option.bind_some]
    rw [f94_eq (hs _ (List.getElem_mem hk)) (by omega), sli_take l k (by omega)]
    simp only [Option.bind_some]
    rw [f95_eq (by rw [List.length_take]; omega) (by rw [List.length_take]; omega), f86_eq]
    simp only [Option.bind_some, f53_k67]
    unfold colsB
    rw [List.getElem?_eq_getElem hk]
    show _ = bif colE (l.take k) l[k] == 0 then _ else some (colE (l.take k) l[k])
    unfold colE
    cases smallB l[k].fName <;> cases decide (colIx (l.take k) l[k].fName ≥ 0) <;> cases inR l[k].fKind 1 3 <;> cases (l[k].fKind != 3) <;> cases sEqF l[k].fClass (ByteArray.mk #[]) <;> rfl
  · rw [f53_l12.eq_2]
    have h1 : decide ((l.length : Int) < len l) = false := by simp [len]
    rw [h1]; rfl
end Go.Proofs
end
section
namespace Go.Proofs
open Go.Vm
theorem ixOf_app {α : Type} (p : α → Bool) : ∀ (a b : List α) (j : Nat), ixOf p (a ++ b) j = bif a.any p then ixOf p a j else ixOf p b (j + a.length)
  | [], b, j => by simp
  | y :: a, b, j => by
    rw [List.cons_append, List.any_cons]
    unfold ixOf
    cases p y
    · rw [cond_false, ixOf_app p a b (j + 1), Bool.false_or, List.length_cons, cond_false]
      rw [show j + 1 + a.length = j + (a.length + 1) by omega]
      cases b <;> rfl
    · rfl
theorem ixOf_bound {α : Type} (p : α → Bool) : ∀ (a : List α) (j : Nat), a.any p = true → (j : Int) ≤ ixOf p a j ∧ ixOf p a j < (j : Int) + a.length
  | [], j, h => by simp at h
  | y :: a, j, h => by
    rw [List.any_cons] at h
    unfold ixOf
    cases hp : p y
    · rw [hp, Bool.false_or] at h
      have := ixOf_bound p a (j + 1) h
      rw [cond_false, List.length_cons]
      push_cast at this ⊢
      omega
    · rw [cond_true, List.length_cons]
      push_cast
      omega
theorem ahead {α : Type} (p : α → Bool) (l : List α) (k : Nat) (hk : k < l.length) (hp : p l[k] = true) : decide (ixOf p l 0 < (k : Int)) = decide (ixOf p (l.take k) 0 ≥ 0) := by
  rw [ixOf_ge]
  have h1 := ixOf_app p (l.take k) (l.drop k) 0
  rw [List.take_append_drop] at h1
  rw [h1]
  cases ha : (l.take k).any p
  · rw [cond_false, List.drop_eq_getElem_cons hk]
    have : ixOf p (l[k] :: l.drop (k + 1)) (0 + (l.take k).length) = ((0 + (l.take k).length : Nat) : Int) := by
      unfold ixOf; rw [hp]; rfl
    rw [this, List.length_take]
    simp; omega
  · have := ixOf_bound p (l.take k) 0 ha
    rw [cond_true]
    rw [List.length_take] at this
    simp; omega
theorem sEqF_refl (a : ByteArray) : sEqF a a = true := by unfold sEqF; simp
end Go.Proofs
end
section
namespace Go.Proofs
open Go.Vm
theorem f17_cols {L : List Form} {x : Int} {f : Form} {K : Option Int} {n : Nat} (hg : gi L x = some f) (hs : ∀ c ∈ f.fCols, c.fName.size < n) (hs2 : ∀ c ∈ f.fCols, c.fName.size < 4611686018427387904) (hn : f.fCols.length < n) (hl : f.fCols.length < 4611686018427387904) :
    f17_l153 L x n K n 0 = goN (colsB f.fCols) K f.fCols.length 0 := by
  refine scanN f.fCols.length K (colsB f.fCols) (f17_l153 L x n K) (fun m k hk => ?_) (fun m => ?_) hl f.fCols.length 0 n (by omega) hn
  · rw [f17_l153.eq_2, hg]
    have h1 : decide ((k : Int) < len f.fCols) = true := by simp [len]; omega
    simp only [Option.bind_some, h1, cond_true, gi_nat, List.getElem?_eq_getElem hk]
    rw [f56_eq (hs _ (List.getElem_mem hk)) (hs2 _ (List.getElem_mem hk)), f57_eq hn hl, f58_eq]
    simp only [Option.bind_some, f17_k220]
    unfold colsB
    rw [List.getElem?_eq_getElem hk]
    show _ = bif colE (f.fCols.take k) f.fCols[k] == 0 then _ else some (colE (f.fCols.take k) f.fCols[k])
    unfold colE colIx
    rw [ahead (fun y => sEqF y.fName f.fCols[k].fName) f.fCols k hk (sEqF_refl _)]
    cases smallB f.fCols[k].fName <;> cases decide (ixOf (fun y => sEqF y.fName f.fCols[k].fName) (f.fCols.take k) 0 ≥ 0) <;> cases inR f.fCols[k].fKind 1 3 <;> cases (f.fCols[k].fKind != 3) <;> cases sEqF f.fCols[k].fClass (ByteArray.mk #[]) <;> rfl
  · rw [f17_l153.eq_2, hg]
    have h1 : decide ((f.fCols.length : Int) < len f.fCols) = false := by simp [len]
    simp only [Option.bind_some, h1, cond_false]
end Go.Proofs
end
section
namespace Go.Proofs
open Go.Vm
theorem goN_cols (l : List Col) (K : Option Int) : ∀ (d k : Nat), d + k = l.length → ∃ e, goN (colsB l) (some 0) d k = some e ∧ goN (colsB l) K d k = bif e == 0 then K else some e
  | 0, k, h => ⟨0, rfl, rfl⟩
  | d + 1, k, h => by
    have hk : k < l.length := by omega
    obtain ⟨e, h1, h2⟩ := goN_cols l K d (k + 1) (by omega)
    have st : ∀ K', goN (colsB l) K' (d + 1) k = bif colE (l.take k) l[k] == 0 then goN (colsB l) K' d (k + 1) else some (colE (l.take k) l[k]) := fun K' => by
      show colsB l k _ = _
      unfold colsB
      rw [List.getElem?_eq_getElem hk]
    rw [st, st]
    cases hc : colE (l.take k) l[k] == 0
    · exact ⟨_, rfl, by rw [hc]; rfl⟩
    · exact ⟨e, h1, h2⟩
theorem f49_three (n : Nat) (a b c : Int) (h : 10 < n) : f49 n [a, b, c] = some (bif a != 0 then a else bif b != 0 then b else c) := by
  unfold f49
  have := scan0 [a, b, c] f49_k3 (fun x y acc => bif y != 0 then some y else acc) (f49_l7 [a, b, c] f49_k3) (fun m x => rfl) (by simp) 3 0 n (by simp) (by omega)
  refine Eq.trans this ?_
  simp only [List.drop_zero, go0, f49_k3]
  cases ha : (a != 0)
  · cases hb : (b != 0)
    · cases hc : (c != 0)
      · have : c = 0 := by simpa using hc
        subst this; rfl
      · rfl
    · rfl
  · rfl
theorem f50_eq (n : Nat) (x : Bool) (e : Int) : f50 n x e = some (bif x then 0 else e) := by unfold f50; cases x <;> rfl
end Go.Proofs
end
section
namespace Go.Proofs
open Go.Vm
def colsR (l : List Col) : Int := bif decide (len l > 30) then 3 else (goN (colsB l) (some 0) l.length 0).getD 0
def formE (pre : List Form) (f : Form) : Int := bif !classB f.fName then 4 else bif decide (formIx pre f.fName ≥ 0) then 6 else colsR f.fCols
def formsB (l : List Form) (k : Nat) (acc : Option Int) : Option Int := match l[k]? with
  | some f => bif formE (l.take k) f == 0 then acc else some (formE (l.take k) f)
  | none => none
def FormSz (n : Nat) (l : List Form) : Prop := l.length < n ∧ ∀ f ∈ l, f.fName.size < n ∧ f.fCols.length < n ∧ ∀ c ∈ f.fCols, c.fName.size < n
theorem f53_eq {l : List Col} {n : Nat} (hs : ∀ c ∈ l, c.fName.size < n) (h9 : 100 < n) (hn : l.length < n) (hl : l.length < 4611686018427387904) : f53 n l = some (colsR l) := by
  unfold f53 colsR
  rw [f53_l hs h9 hn hl]
  obtain ⟨e, h1, _⟩ := goN_cols l none l.length 0 (by omega)
  cases decide (len l > 30)
  · show goN (colsB l) (some 0) l.length 0 = some ((goN (colsB l) (some 0) l.length 0).getD 0)
    rw [h1]; rfl
  · rfl
theorem f16_l {l : List Form} {K : Option Int} {n : Nat} (hz : FormSz n l) (h9 : 100 < n) (hn : n < 4611686018427387904) : f16_l12 l n K n 0 = goN (formsB l) K l.length 0 := by
  refine scanN l.length K (formsB l) (f16_l12 l n K) (fun m k hk => ?_) (fun m => ?_) (by have := hz.1; omega) l.length 0 n (by omega) hz.1
  · obtain ⟨z1, z2, z3⟩ := hz.2 _ (List.getElem_mem hk)
    have hlen := hz.1
    rw [f16_l12.eq_2]
    have h1 : decide ((k : Int) < len l) = true := by simp [len]; omega
    rw [h1, gi_nat, List.getElem?_eq_getElem hk, sli_take l k (by omega)]
    simp only [cond_true, Option.bind_some]
    rw [f51_eq z1 (by omega), Option.bind_some, f50_eq, Option.bind_some, f52_eq (by rw [List.length_take]; omega) (by rw [List.length_take]; omega), Option.bind_some, f50_eq, Option.bind_some, f53_eq z3 h9 z2 (by omega), Option.bind_some, f49_three n _ _ _ (by omega), Option.bind_some]
    unfold formsB
    rw [List.getElem?_eq_getElem hk]
    show _ = bif formE (l.take k) l[k] == 0 then _ else some (formE (l.take k) l[k])
    unfold formE
    have hlt : decide (formIx (l.take k) l[k].fName < 0) = !decide (formIx (l.take k) l[k].fName ≥ 0) := by
      unfold formIx; rw [ixOf_lt, ixOf_ge]
    rw [hlt]
    cases classB l[k].fName
    · rfl
    · cases decide (formIx (l.take k) l[k].fName ≥ 0)
      · show (bif colsR l[k].fCols != 0 then some (colsR l[k].fCols) else _) = bif colsR l[k].fCols == 0 then _ else some (colsR l[k].fCols)
        unfold bne
        cases colsR l[k].fCols == 0 <;> rfl
      · rfl
  · rw [f16_l12.eq_2]
    have h1 : decide ((l.length : Int) < len l) = false := by simp [len]
    rw [h1]; rfl
end Go.Proofs
end
section
namespace Go.Proofs
open Go.Vm
theorem f17_l {l : List Form} {K : Option Int} {n : Nat} (hz : FormSz n l) (h9 : 100 < n) (hn : n < 4611686018427387904) : f17_l11 l n K n 0 = goN (formsB l) K l.length 0 := by
  refine scanN l.length K (formsB l) (f17_l11 l n K) (fun m k hk => ?_) (fun m => ?_) (by have := hz.1; omega) l.length 0 n (by omega) hz.1
  · obtain ⟨z1, z2, z3⟩ := hz.2 _ (List.getElem_mem hk)
    have hlen := hz.1
    have hg : gi l (k : Int) = some l[k] := by rw [gi_nat, List.getElem?_eq_getElem hk]
    rw [f17_l11.eq_2]
    have h1 : decide ((k : Int) < len l) = true := by simp [len]; omega
    rw [h1]
    simp only [cond_true, hg, Option.bind_some]
    rw [f54_eq z1 h9 (by omega), Option.bind_some, f55_eq hlen (by omega), Option.bind_some]
    rw [f17_cols (K := f17_k125 k (f17_l11 l n K m)) hg z3 (fun c hc => by have := z3 c hc; omega) z2 (by omega)]
    unfold formsB
    rw [List.getElem?_eq_getElem hk]
    show _ = bif formE (l.take k) l[k] == 0 then _ else some (formE (l.take k) l[k])
    unfold formE formIx
    rw [ahead (fun y => sEqF y.fName l[k].fName) l k hk (sEqF_refl _)]
    cases classB l[k].fName
    · rfl
    · cases decide (ixOf (fun y => sEqF y.fName l[k].fName) (l.take k) 0 ≥ 0)
      · unfold colsR
        obtain ⟨e, e1, e2⟩ := goN_cols l[k].fCols (f17_k125 k (f17_l11 l n K m)) l[k].fCols.length 0 (by omega)
        rw [e1, e2]
        cases decide (len l[k].fCols > 30)
        · show (bif e == 0 then _ else some e) = bif e == 0 then _ else some e
          cases e == 0 <;> rfl
        · rfl
      · rfl
  · rw [f17_l11.eq_2]
    have h1 : decide ((l.length : Int) < len l) = false := by simp [len]
    rw [h1]; rfl
end Go.Proofs
end
section
namespace Go.Proofs
open Go.Vm
def refB (L : List Form) (l : List Col) (k : Nat) (acc : Option Int) : Option Int := match l[k]? with
  | some c => bif (c.fKind == 3) && (!(sEqF c.fClass (ByteArray.mk #[65, 78, 89])) && decide (formIx L c.fClass < 0)) then some 5 else acc
  | none => none
def refsB (L : List Form) (k : Nat) (acc : Option Int) : Option Int := match L[k]? with
  | some f => goN (refB L f.fCols) acc f.fCols.length 0
  | none => none
theorem f16_in {L : List Form} {f : Form} {K : Option Int} {n : Nat} (hL : L.length < n) (hf : f.fCols.length < n) (hn : n < 4611686018427387904) : f16_l130 f n L K n 0 = goN (refB L f.fCols) K f.fCols.length 0 := by
  refine scanN f.fCols.length K (refB L f.fCols) (f16_l130 f n L K) (fun m k hk => ?_) (fun m => ?_) (by omega) f.fCols.length 0 n (by omega) hf
  · rw [f16_l130.eq_2]
    have h1 : decide ((k : Int) < len f.fCols) = true := by simp [len]; omega
    rw [h1, gi_nat, List.getElem?_eq_getElem hk]
    simp only [cond_true, Option.bind_some]
    rw [f52_eq hL (by omega)]
    simp only [Option.bind_some, f16_k157]
    unfold refB
    rw [List.getElem?_eq_getElem hk]
    show _ = bif (f.fCols[k].fKind == 3) && (!(sEqF f.fCols[k].fClass (ByteArray.mk #[65, 78, 89])) && decide (formIx L f.fCols[k].fClass < 0)) then _ else _
    cases (f.fCols[k].fKind == 3) <;> cases sEqF f.fCols[k].fClass (ByteArray.mk #[65, 78, 89]) <;> cases decide (formIx L f.fCols[k].fClass < 0) <;> rfl
  · rw [f16_l130.eq_2]
    have h1 : decide ((f.fCols.length : Int) < len f.fCols) = false := by simp [len]
    rw [h1]; rfl
theorem f17_in {L : List Form} {x : Int} {f : Form} {K : Option Int} {n : Nat} (hg : gi L x = some f) (hL : L.length < n) (hf : f.fCols.length < n) (hn : n < 4611686018427387904) : f17_l296 L x n K n 0 = goN (refB L f.fCols) K f.fCols.length 0 := by
  refine scanN f.fCols.length K (refB L f.fCols) (f17_l296 L x n K) (fun m k hk => ?_) (fun m => ?_) (by omega) f.fCols.length 0 n (by omega) hf
  · rw [f17_l296.eq_2, hg]
    have h1 : decide ((k : Int) < len f.fCols) = true := by simp [len]; omega
    simp only [Option.bind_some, h1, cond_true, gi_nat, List.getElem?_eq_getElem hk]
    rw [f55_eq hL (by omega)]
    simp only [Option.bind_some, f17_k333]
    unfold refB
    rw [List.getElem?_eq_getElem hk]
    show _ = bif (f.fCols[k].fKind == 3) && (!(sEqF f.fCols[k].fClass (ByteArray.mk #[65, 78, 89])) && decide (formIx L f.fCols[k].fClass < 0)) then _ else _
    cases (f.fCols[k].fKind == 3) <;> cases sEqF f.fCols[k].fClass (ByteArray.mk #[65, 78, 89]) <;> cases decide (formIx L f.fCols[k].fClass < 0) <;> rfl
  · rw [f17_l296.eq_2, hg]
    have h1 : decide ((f.fCols.length : Int) < len f.fCols) = false := by simp [len]
    simp only [Option.bind_some, h1, cond_false]
theorem f16_l2 {l : List Form} {K : Option Int} {n : Nat} (hz : FormSz n l) (hn : n < 4611686018427387904) : f16_l70 l n K n 0 = goN (refsB l) K l.length 0 := by
  have hlen := hz.1
  refine scanN l.length K (refsB l) (f16_l70 l n K) (fun m k hk => ?_) (fun m => ?_) (by omega) l.length 0 n (by omega) hz.1
  · rw [f16_l70.eq_2]
    have h1 : decide ((k : Int) < len l) = true := by simp [len]; omega
    rw [h1, gi_nat, List.getElem?_eq_getElem hk]
    simp only [cond_true, Option.bind_some]
    rw [f16_in hlen (hz.2 _ (List.getElem_mem hk)).2.1 hn]
    unfold refsB
    rw [List.getElem?_eq_getElem hk]
    rfl
  · rw [f16_l70.eq_2]
    have h1 : decide ((l.length : Int) < len l) = false := by simp [len]
    rw [h1]; rfl
theorem f17_l2 {l : List Form} {K : Option Int} {n : Nat} (hz : FormSz n l) (hn : n < 4611686018427387904) : f17_l232 l n K n 0 = goN (refsB l) K l.length 0 := by
  have hlen := hz.1
  refine scanN l.length K (refsB l) (f17_l232 l n K) (fun m k hk => ?_) (fun m => ?_) (by omega) l.length 0 n (by omega) hz.1
  · have hg : gi l (k : Int) = some l[k] := by rw [gi_nat, List.getElem?_eq_getElem hk]
    rw [f17_l232.eq_2]
    have h1 : decide ((k : Int) < len l) = true := by simp [len]; omega
    rw [h1]
    simp only [cond_true]
    rw [f17_in hg hlen (hz.2 _ (List.getElem_mem hk)).2.1 hn]
    unfold refsB
    rw [List.getElem?_eq_getElem hk]
    rfl
  · rw [f17_l232.eq_2]
    have h1 : decide ((l.length : Int) < len l) = false := by simp [len]
    rw [h1]; rfl
theorem f16_f17 {l : List Form} {n : Nat} (hz : FormSz n l) (h9 : 100 < n) (hn : n < 4611686018427387904) : f16 n l = f17 n l := by
  unfold f16 f17 f16_k8 f17_k8
  rw [f16_l hz h9 hn, f17_l hz h9 hn, f16_l2 hz hn, f17_l2 hz hn]
  rfl
end Go.Proofs
end
section
namespace Go.Proofs
open Go.Vm
def valB (v : Val) (m : Int) : Bool := bif v.fKind == 1 then inR v.fN (-1099511627776) 1099511627776 else bif v.fKind == 2 then inR v.fN 0 1 else bif v.fKind == 3 then v.fN == 0 else bif v.fKind == 4 then inR v.fN 0 (wr .i64 (m - 1)) else false
theorem f111_val (n : Nat) (v : Val) (m : Int) : f111 n v m = some (valB v m) := by
  unfold f111 valB
  simp only [f86_eq, Option.bind_some]
  cases (v.fKind == 1) <;> cases (v.fKind == 2) <;> cases (v.fKind == 3) <;> cases (v.fKind == 4) <;> rfl
theorem f99_val (n : Nat) (v : Val) (m : Int) : f99 n v m = some (valB v m) := by rw [← f111_eq]; exact f111_val n v m
def refersB (v : Val) : Bool := (v.fKind == 3) || (v.fKind == 4)
theorem f112_eq {n : Nat} {l : List Val} {a : List Node} {b : List Val} (hn : l.length < n) (hl : l.length < 4611686018427387904) : f112 n l a b = some (l.any fun v => !valB v (len a)) := by
  have f110_eq : ∀ v, f110 n v a b = some (!valB v (len a)) := fun v => by unfold f110; rw [f111_val]; rfl
  have h : f140 n l a b = some (ixOf (fun v => !valB v (len a)) l 0) := by
    unfold f140
    have := scan0 l f140_k5 (fun x y acc => bif !valB y (len a) then some x else acc) (f140_l9 l n a b f140_k5) (fun m x => by rw [f140_l9.eq_2]; simp only [f110_eq, Option.bind_some]) hl l.length 0 n (by omega) hn
    exact this.trans (go0_ix (fun v => !valB v (len a)) id l 0)
  unfold f112
  rw [h, Option.bind_some, ixOf_ge]
theorem f112_b_eq {n : Nat} {l : List Val} {a : List Node} {b : List Val} (hn : l.length < n) (hl : l.length < 4611686018427387904) : f112_b n l a b = some (l.any fun v => !valB v (len a) || !refersB v) := by
  have f113_eq : ∀ v, f113 n v a b = some (!valB v (len a) || !refersB v) := fun v => by
    unfold f113 f110 f114 refersB
    rw [f111_val]
    simp only [Option.bind_some]
    cases valB v (len a) <;> cases (v.fKind == 3) <;> cases (v.fKind == 4) <;> rfl
  have h : f140_b n l a b = some (ixOf (fun v => !valB v (len a) || !refersB v) l 0) := by
    unfold f140_b
    have := scan0 l f140_b_k5 (fun x y acc => bif !valB y (len a) || !refersB y then some x else acc) (f140_b_l9 l n a b f140_b_k5) (fun m x => by rw [f140_b_l9.eq_2]; simp only [f113_eq, Option.bind_some]) hl l.length 0 n (by omega) hn
    exact this.trans (go0_ix (fun v => !valB v (len a) || !refersB v) id l 0)
  unfold f112_b
  rw [h, Option.bind_some, ixOf_ge]
end Go.Proofs
end
section
namespace Go.Proofs
open Go.Vm
def GraphSz (n : Nat) (g : Graph) : Prop := g.fNodes.length < n ∧ g.fRoots.length < n ∧ ∀ x ∈ g.fNodes, x.fVals.length < n
def formedR (g : Graph) : Int :=
  bif decide (len g.fNodes > 400) || decide (len g.fRoots > 60) then 3 else bif g.fNodes.any fun x => decide (len x.fVals > 30) then 3 else
  bif g.fNodes.any fun x => x.fVals.any fun v => !valB v (len g.fNodes) then 2 else bif g.fRoots.any fun v => !valB v (len g.fNodes) || !refersB v then 2 else 0
theorem scanM {α ρ : Type} (l : List α) (K : Option ρ) (p : α → Bool) (e : Option ρ) (L : Nat → Int → Option ρ)
    (hL : ∀ m (k : Nat) (hk : k < l.length), L (m + 1) k = bif p l[k] then e else L m (wr .i64 (k + 1))) (hK : ∀ m, L (m + 1) l.length = K) {n : Nat} (hn : l.length < n) (hl : l.length < 4611686018427387904) : L n 0 = bif l.any p then e else K := by
  have h := scanN l.length K (fun k acc => match l[k]? with | some y => bif p y then e else acc | none => none) L (fun m k hk => by rw [hL m k hk, List.getElem?_eq_getElem hk]) hK hl l.length 0 n (by omega) hn
  refine h.trans ?_
  have key : ∀ (d k : Nat), d + k = l.length → goN (fun k acc => match l[k]? with | some y => bif p y then e else acc | none => none) K d k = bif (l.drop k).any p then e else K := by
    intro d
    induction d with
    | zero =>
      intro k hk
      have : l.drop k = [] := List.drop_eq_nil_of_le (by omega)
      rw [this]; rfl
    | succ d ih =>
      intro k hk
      have hlt : k < l.length := by omega
      rw [List.drop_eq_getElem_cons hlt, List.any_cons]
      show (match l[k]? with | some y => bif p y then e else goN _ K d (k + 1) | none => none) = _
      rw [List.getElem?_eq_getElem hlt]
      show (bif p l[k] then e else goN _ K d (k + 1)) = _
      rw [ih (k + 1) (by omega)]
      cases p l[k] <;> rfl
  exact key l.length 0 (by omega)
theorem f74_eq {g : Graph} {n : Nat} (hz : GraphSz n g) (hn : n < 4611686018427387904) : f74 n g = some (formedR g) := by
  obtain ⟨z1, z2, z3⟩ := hz
  have l1 : ∀ K, f74_l15 g K n 0 = bif g.fNodes.any fun x => decide (len x.fVals > 30) then some 3 else K := fun K => by
    refine scanM g.fNodes K (fun x => decide (len x.fVals > 30)) (some 3) (f74_l15 g K) (fun m k hk => ?_) (fun m => ?_) z1 (by omega)
    · rw [f74_l15.eq_2]
      have h1 : decide ((k : Int) < len g.fNodes) = true := by simp [len]; omega
      rw [h1, gi_nat, List.getElem?_eq_getElem hk]; rfl
    · rw [f74_l15.eq_2]
      have h1 : decide ((g.fNodes.length : Int) < len g.fNodes) = false := by simp [len]
      rw [h1]; rfl
  have l2 : ∀ K, f74_l46 g n K n 0 = bif g.fNodes.any fun x => x.fVals.any fun v => !valB v (len g.fNodes) then some 2 else K := fun K => by
    refine scanM g.fNodes K (fun x => x.fVals.any fun v => !valB v (len g.fNodes)) (some 2) (f74_l46 g n K) (fun m k hk => ?_) (fun m => ?_) z1 (by omega)
    · rw [f74_l46.eq_2]
      have h1 : decide ((k : Int) < len g.fNodes) = true := by simp [len]; omega
      have h2 := z3 _ (List.getElem_mem hk)
      rw [h1, gi_nat, List.getElem?_eq_getElem hk]
      simp only [cond_true, Option.bind_some]
      rw [f112_eq h2 (by omega)]; rfl
    · rw [f74_l46.eq_2]
      have h1 : decide ((g.fNodes.length : Int) < len g.fNodes) = false := by simp [len]
      rw [h1]; rfl
  unfold f74 f74_k4 f74_k11 f74_k42
  rw [f112_b_eq z2 (by omega)]
  simp only [l1, l2, Option.bind_some, f50_eq]
  unfold formedR
  cases decide (len g.fNodes > 400) <;> cases decide (len g.fRoots > 60) <;> cases (g.fNodes.any fun x => decide (len x.fVals > 30)) <;> cases (g.fNodes.any fun x => x.fVals.any fun v => !valB v (len g.fNodes)) <;> cases (g.fRoots.any fun v => !valB v (len g.fNodes) || !refersB v) <;> rfl
end Go.Proofs
end
section
namespace Go.Proofs
open Go.Vm
theorem f60_eq {g : Graph} {n : Nat} (hz : GraphSz n g) (hn : n < 4611686018427387904) : f60 n g = some (formedR g) := by
  obtain ⟨z1, z2, z3⟩ := hz
  have l1 : ∀ K, f60_l15 g K n 0 = bif g.fNodes.any fun x => decide (len x.fVals > 30) then some 3 else K := fun K => by
    refine scanM g.fNodes K (fun x => decide (len x.fVals > 30)) (some 3) (f60_l15 g K) (fun m k hk => ?_) (fun m => ?_) z1 (by omega)
    · rw [f60_l15.eq_2]
      have h1 : decide ((k : Int) < len g.fNodes) = true := by simp [len]; omega
      rw [h1, gi_nat, List.getElem?_eq_getElem hk]; rfl
    · rw [f60_l15.eq_2]
      have h1 : decide ((g.fNodes.length : Int) < len g.fNodes) = false := by simp [len]
      rw [h1]; rfl
  have li : ∀ K (k : Nat) (hk : k < g.fNodes.length), f60_l96 g k n K n 0 = bif g.fNodes[k].fVals.any fun v => !valB v (len g.fNodes) then some 2 else K := fun K k hk => by
    have hg : gi g.fNodes (k : Int) = some g.fNodes[k] := by rw [gi_nat, List.getElem?_eq_getElem hk]
    have h2 := z3 _ (List.getElem_mem hk)
    refine scanM g.fNodes[k].fVals K (fun v => !valB v (len g.fNodes)) (some 2) (f60_l96 g k n K) (fun m j hj => ?_) (fun m => ?_) h2 (by omega)
    · rw [f60_l96.eq_2, hg]
      have h1 : decide ((j : Int) < len g.fNodes[k].fVals) = true := by simp [len]; omega
      simp only [Option.bind_some, h1, cond_true, gi_nat, List.getElem?_eq_getElem hj, f99_val]
    · rw [f60_l96.eq_2, hg]
      have h1 : decide ((g.fNodes[k].fVals.length : Int) < len g.fNodes[k].fVals) = false := by simp [len]
      simp only [Option.bind_some, h1, cond_false]
  have l2 : ∀ K, f60_l42 g n K n 0 = bif g.fNodes.any fun x => x.fVals.any fun v => !valB v (len g.fNodes) then some 2 else K := fun K => by
    refine scanM g.fNodes K (fun x => x.fVals.any fun v => !valB v (len g.fNodes)) (some 2) (f60_l42 g n K) (fun m k hk => ?_) (fun m => ?_) z1 (by omega)
    · rw [f60_l42.eq_2]
      have h1 : decide ((k : Int) < len g.fNodes) = true := by simp [len]; omega
      rw [h1, cond_true, li _ k hk]; rfl
    · rw [f60_l42.eq_2]
      have h1 : decide ((g.fNodes.length : Int) < len g.fNodes) = false := by simp [len]
      rw [h1]; rfl
  have l3 : ∀ K, f60_l137 g n K n 0 = bif g.fRoots.any fun v => !valB v (len g.fNodes) || !refersB v then some 2 else K := fun K => by
    refine scanM g.fRoots K (fun v => !valB v (len g.fNodes) || !refersB v) (some 2) (f60_l137 g n K) (fun m k hk => ?_) (fun m => ?_) z2 (by omega)
    · rw [f60_l137.eq_2]
      have h1 : decide ((k : Int) < len g.fRoots) = true := by simp [len]; omega
      rw [h1, gi_nat, List.getElem?_eq_getElem hk]
      simp only [cond_true, Option.bind_some, f99_val, f60_k171]
      unfold refersB bne
      cases valB g.fRoots[k] (len g.fNodes) <;> cases (g.fRoots[k].fKind == 3) <;> cases (g.fRoots[k].fKind == 4) <;> rfl
    · rw [f60_l137.eq_2]
      have h1 : decide ((g.fRoots.length : Int) < len g.fRoots) = false := by simp [len]
      rw [h1]; rfl
  unfold f60 f60_k6 f60_k12 f60_k39
  simp only [l1, l2, l3, f60_k134]
  unfold formedR
  cases decide (len g.fNodes > 400) <;> cases decide (len g.fRoots > 60) <;> cases (g.fNodes.any fun x => decide (len x.fVals > 30)) <;> cases (g.fNodes.any fun x => x.fVals.any fun v => !valB v (len g.fNodes)) <;> cases (g.fRoots.any fun v => !valB v (len g.fNodes) || !refersB v) <;> rfl
end Go.Proofs
end
section
namespace Go.Proofs
open Go.Vm
theorem f97_eq {n : Nat} {l : List Node} {F : List Form} (hn : l.length < n) (hF : F.length < n) (hN : n < 4611686018427387904) : f97 n l F = some (l.any fun x => decide (formIx F x.fClass < 0)) := by
  have f98_eq : ∀ x, f98 n x F = some (decide (formIx F x.fClass < 0)) := fun x => by unfold f98; rw [f52_eq hF (by omega)]; rfl
  have h : f135 n l F = some (ixOf (fun x => decide (formIx F x.fClass < 0)) l 0) := by
    unfold f135
    have := scan0 l f135_k4 (fun x y acc => bif decide (formIx F y.fClass < 0) then some x else acc) (f135_l8 l n F f135_k4) (fun m x => by rw [f135_l8.eq_2]; simp only [f98_eq, Option.bind_some]) (by omega) l.length 0 n (by omega) hn
    exact this.trans (go0_ix (fun x => decide (formIx F x.fClass < 0)) id l 0)
  unfold f97
  rw [h, Option.bind_some, ixOf_ge]
end Go.Proofs
end
section
namespace Go.Proofs
open Go.Vm
def suitsB (g : Graph) (c : Col) (v : Val) : Bool :=
  bif c.fKind == 1 then v.fKind == 1 else bif c.fKind == 2 then v.fKind == 2 else bif v.fKind == 3 then true else
  (v.fKind == 4) && (sEqF c.fClass (ByteArray.mk #[65, 78, 89]) || sEqF (((gi g.fNodes v.fN).map fun x => x.fClass).getD (ByteArray.mk #[])) c.fClass)
theorem gi_of_val {g : Graph} {v : Val} (hv : valB v (len g.fNodes) = true) (h4 : (v.fKind == 4) = true) (hn : g.fNodes.length < 4611686018427387904) : 0 ≤ v.fN ∧ ∃ x, gi g.fNodes v.fN = some x := by
  have hk : v.fKind = 4 := by simpa using h4
  unfold valB inR at hv
  rw [hk] at hv
  have hv' : (decide (0 ≤ v.fN) && decide (v.fN ≤ wr .i64 (len g.fNodes - 1))) = true := hv
  rw [wr_id (by unfold len; omega) (by unfold len; omega)] at hv'
  simp only [Bool.and_eq_true, decide_eq_true_eq] at hv'
  unfold len at hv'
  refine ⟨hv'.1, ?_⟩
  obtain ⟨m, hm⟩ := Int.eq_ofNat_of_zero_le hv'.1
  rw [hm, gi_nat, List.getElem?_eq_getElem (by omega)]
  exact ⟨_, rfl⟩
theorem f107_eq {g : Graph} {n : Nat} {c : Col} {v : Val} (hv : valB v (len g.fNodes) = true) (hn : g.fNodes.length < 4611686018427387904) : f107 n g c v = some (suitsB g c v) := by
  unfold f107 suitsB f107_k14
  cases h4 : (v.fKind == 4)
  · cases (c.fKind == 1) <;> cases (c.fKind == 2) <;> cases (v.fKind == 3) <;> rfl
  · obtain ⟨_, x, hx⟩ := gi_of_val hv h4 hn
    rw [hx]
    cases (c.fKind == 1) <;> cases (c.fKind == 2) <;> cases (v.fKind == 3) <;> cases sEqF c.fClass (ByteArray.mk #[65, 78, 89]) <;> rfl
theorem f61_eq {g : Graph} {n : Nat} {c : Col} {v : Val} (hv : valB v (len g.fNodes) = true) (hn : g.fNodes.length < 4611686018427387904) : f61 n c v g = some (suitsB g c v) := by
  unfold f61 suitsB f61_k18
  cases h4 : (v.fKind == 4)
  · cases (c.fKind == 1) <;> cases (c.fKind == 2) <;> cases (v.fKind == 3) <;> rfl
  · obtain ⟨h0, x, hx⟩ := gi_of_val hv h4 hn
    have hm : mxI 0 v.fN = v.fN := by unfold mxI; split <;> omega
    rw [hm, hx]
    cases (c.fKind == 1) <;> cases (c.fKind == 2) <;> cases (v.fKind == 3) <;> cases sEqF c.fClass (ByteArray.mk #[65, 78, 89]) <;> rfl
end Go.Proofs
end
section
namespace Go.Proofs
open Go.Vm
theorem gi_ix {L : List Form} {s : ByteArray} (h : decide (formIx L s < 0) = false) : ∃ f, gi L (formIx L s) = some f ∧ f ∈ L := by
  unfold formIx at h ⊢
  rw [ixOf_lt] at h
  have ha : L.any (fun x => sEqF x.fName s) = true := by simpa using h
  have := ixOf_bound (fun x => sEqF x.fName s) L 0 ha
  obtain ⟨m, hm⟩ := Int.eq_ofNat_of_zero_le (by have := this.1; simpa using this : 0 ≤ ixOf (fun x => sEqF x.fName s) L 0)
  rw [hm] at this ⊢
  rw [gi_nat, List.getElem?_eq_getElem (by have := this.2; simp at this; omega)]
  exact ⟨_, rfl, List.getElem_mem _⟩
def nodeB (L : List Form) (g : Graph) (x : Node) : Bool := match gi L (formIx L x.fClass) with
  | some f => (len x.fVals == len f.fCols) && (f.fCols.zip x.fVals).all fun p => suitsB g p.1 p.2
  | none => false
theorem f71_eq {L : List Form} {g : Graph} {n : Nat} (hz : FormSz n L) (hg : GraphSz n g) (hn : n < 4611686018427387904) (hv : ∀ x ∈ g.fNodes, ∀ v ∈ x.fVals, valB v (len g.fNodes) = true) (hc : ∀ x ∈ g.fNodes, decide (formIx L x.fClass < 0) = false) : f71 n L g = some (g.fNodes.all (nodeB L g)) := by
  obtain ⟨z1, z2, z3⟩ := hg
  have hL := hz.1
  have inner : ∀ (f : Form) (x : Node) (K : Option Bool), f ∈ L → x ∈ g.fNodes → (len x.fVals == len f.fCols) = true → f71_l86 f x n g K n 0 = bif (f.fCols.zip x.fVals).any (fun p => !suitsB g p.1 p.2) then some false else K := fun f x K hf hx hlen => by
    have he : x.fVals.length = f.fCols.length := by
      have h0 : (x.fVals.length : Int) = (f.fCols.length : Int) := eq_of_beq hlen
      omega
    have hzl : (f.fCols.zip x.fVals).length = f.fCols.length := by simp [he]
    have hfn := (hz.2 f hf).2.1
    refine scanM (f.fCols.zip x.fVals) K (fun p => !suitsB g p.1 p.2) (some false) (f71_l86 f x n g K) (fun m k hk => ?_) (fun m => ?_) (by omega) (by omega)
    · rw [f71_l86.eq_2]
      have h1 : decide ((k : Int) < len f.fCols) = true := by simp [len]; omega
      have hk1 : k < f.fCols.length := by omega
      have hk2 : k < x.fVals.length := by omega
      rw [h1, gi_nat, List.getElem?_eq_getElem hk1, gi_nat, List.getElem?_eq_getElem hk2]
      simp only [cond_true, Option.bind_some]
      rw [f107_eq (hv x hx _ (List.getElem_mem hk2)) (by omega)]
      simp only [Option.bind_some, List.getElem_zip]
    · rw [hzl, f71_l86.eq_2]
      have h1 : decide ((f.fCols.length : Int) < len f.fCols) = false := by simp [len]
      rw [h1]; rfl
  have outer : f71_l8 g n L f71_k4 n 0 = bif g.fNodes.any (fun x => !nodeB L g x) then some false else some true := by
    refine scanM g.fNodes (some true) (fun x => !nodeB L g x) (some false) (f71_l8 g n L f71_k4) (fun m k hk => ?_) (fun m => ?_) z1 (by omega)
    · rw [f71_l8.eq_2]
      have h1 : decide ((k : Int) < len g.fNodes) = true := by simp [len]; omega
      have hx := List.getElem_mem hk
      obtain ⟨f, hf1, hf2⟩ := gi_ix (hc _ hx)
      rw [h1, gi_nat, List.getElem?_eq_getElem hk]
      simp only [cond_true, Option.bind_some]
      rw [f52_eq hL (by omega), Option.bind_some, hf1, Option.bind_some]
      unfold nodeB
      rw [hf1]
      show _ = bif !((len g.fNodes[k].fVals == len f.fCols) && (f.fCols.zip g.fNodes[k].fVals).all fun p => suitsB g p.1 p.2) then _ else _
      unfold bne
      cases hlen : (len g.fNodes[k].fVals == len f.fCols)
      · rfl
      · rw [inner f _ _ hf2 hx hlen]
        have : ((f.fCols.zip g.fNodes[k].fVals).any fun p => !suitsB g p.1 p.2) = !((f.fCols.zip g.fNodes[k].fVals).all fun p => suitsB g p.1 p.2) := by rw [← List.not_all_eq_any_not]
        rw [this]; rfl
    · rw [f71_l8.eq_2]
      have h1 : decide ((g.fNodes.length : Int) < len g.fNodes) = false := by simp [len]
      rw [h1]; rfl
  unfold f71
  rw [outer]
  have : (g.fNodes.any fun x => !nodeB L g x) = !(g.fNodes.all (nodeB L g)) := by rw [← List.not_all_eq_any_not]
  rw [this]
  cases g.fNodes.all (nodeB L g) <;> rfl
end Go.Proofs
end
section
namespace Go.Proofs
open Go.Vm
theorem f19_a {L : List Form} {g : Graph} {K : Option Int} {n : Nat} (hL : L.length < n) (hg : GraphSz n g) (hn : n < 4611686018427387904) : f19_l21 g n L K n 0 = bif g.fNodes.any (fun x => decide (formIx L x.fClass < 0)) then some 4 else K := by
  obtain ⟨z1, _, _⟩ := hg
  refine scanM g.fNodes K (fun x => decide (formIx L x.fClass < 0)) (some 4) (f19_l21 g n L K) (fun m k hk => ?_) (fun m => ?_) z1 (by omega)
  · rw [f19_l21.eq_2]
    have h1 : decide ((k : Int) < len g.fNodes) = true := by simp [len]; omega
    rw [h1, gi_nat, List.getElem?_eq_getElem hk]
    simp only [cond_true, Option.bind_some]
    rw [f55_eq hL (by omega), Option.bind_some]
  · rw [f19_l21.eq_2]
    have h1 : decide ((g.fNodes.length : Int) < len g.fNodes) = false := by simp [len]
    rw [h1]; rfl
theorem f19_b {L : List Form} {g : Graph} {K : Option Int} {n : Nat} (hz : FormSz n L) (hg : GraphSz n g) (hn : n < 4611686018427387904) (hv : ∀ x ∈ g.fNodes, ∀ v ∈ x.fVals, valB v (len g.fNodes) = true) (hc : ∀ x ∈ g.fNodes, decide (formIx L x.fClass < 0) = false) : f19_l52 g n L K n 0 = bif g.fNodes.all (nodeB L g) then K else some 8 := by
  obtain ⟨z1, z2, z3⟩ := hg
  have hL := hz.1
  have inner : ∀ (f : Form) (i : Nat) (hi : i < g.fNodes.length) (K : Option Int), f ∈ L → (len f.fCols == len g.fNodes[i].fVals) = true → f19_l138 f g i n K n 0 = bif (f.fCols.zip g.fNodes[i].fVals).any (fun p => !suitsB g p.1 p.2) then some 8 else K := fun f i hi K hf hlen => by
    have he : f.fCols.length = g.fNodes[i].fVals.length := by
      have h0 : (f.fCols.length : Int) = (g.fNodes[i].fVals.length : Int) := eq_of_beq hlen
      omega
    have hzl : (f.fCols.zip g.fNodes[i].fVals).length = f.fCols.length := by simp [he]
    have hfn := (hz.2 f hf).2.1
    have hgi : gi g.fNodes (i : Int) = some g.fNodes[i] := by rw [gi_nat, List.getElem?_eq_getElem hi]
    refine scanM (f.fCols.zip g.fNodes[i].fVals) K (fun p => !suitsB g p.1 p.2) (some 8) (f19_l138 f g i n K) (fun m k hk => ?_) (fun m => ?_) (by omega) (by omega)
    · rw [f19_l138.eq_2]
      have h1 : decide ((k : Int) < len f.fCols) = true := by simp [len]; omega
      have hk1 : k < f.fCols.length := by omega
      have hk2 : k < g.fNodes[i].fVals.length := by omega
      rw [h1, gi_nat, List.getElem?_eq_getElem hk1, hgi]
      simp only [cond_true, Option.bind_some]
      rw [gi_nat, List.getElem?_eq_getElem hk2, Option.bind_some, f61_eq (hv _ (List.getElem_mem hi) _ (List.getElem_mem hk2)) (by omega)]
      simp only [Option.bind_some, List.getElem_zip]
    · rw [hzl, f19_l138.eq_2]
      have h1 : decide ((f.fCols.length : Int) < len f.fCols) = false := by simp [len]
      rw [h1]; rfl
  have outer : f19_l52 g n L K n 0 = bif g.fNodes.any (fun x => !nodeB L g x) then some 8 else K := by
    refine scanM g.fNodes K (fun x => !nodeB L g x) (some 8) (f19_l52 g n L K) (fun m k hk => ?_) (fun m => ?_) z1 (by omega)
    · rw [f19_l52.eq_2]
      have h1 : decide ((k : Int) < len g.fNodes) = true := by simp [len]; omega
      have hx := List.getElem_mem hk
      obtain ⟨f, hf1, hf2⟩ := gi_ix (hc _ hx)
      have hgi : gi g.fNodes (k : Int) = some g.fNodes[k] := by rw [gi_nat, List.getElem?_eq_getElem hk]
      rw [h1, hgi]
      simp only [cond_true, Option.bind_some]
      rw [f55_eq hL (by omega), Option.bind_some, hf1, Option.bind_some]
      unfold nodeB
      rw [hf1]
      show _ = bif !((len g.fNodes[k].fVals == len f.fCols) && (f.fCols.zip g.fNodes[k].fVals).all fun p => suitsB g p.1 p.2) then _ else _
      have hcomm : (len g.fNodes[k].fVals == len f.fCols) = (len f.fCols == len g.fNodes[k].fVals) := Bool.beq_comm
      rw [hcomm]
      unfold bne
      cases hlen : (len f.fCols == len g.fNodes[k].fVals)
      · rfl
      · rw [inner f k hk _ hf2 hlen]
        have : ((f.fCols.zip g.fNodes[k].fVals).any fun p => !suitsB g p.1 p.2) = !((f.fCols.zip g.fNodes[k].fVals).all fun p => suitsB g p.1 p.2) := by rw [← List.not_all_eq_any_not]
        rw [this]; rfl
    · rw [f19_l52.eq_2]
      have h1 : decide ((g.fNodes.length : Int) < len g.fNodes) = false := by simp [len]
      rw [h1]; rfl
  rw [outer]
  have : (g.fNodes.any fun x => !nodeB L g x) = !(g.fNodes.all (nodeB L g)) := by rw [← List.not_all_eq_any_not]
  rw [this]
  cases g.fNodes.all (nodeB L g) <;> rfl
end Go.Proofs
end
section
namespace Go.Proofs
open Go.Vm
theorem goN_tot {ρ : Type} (B : Nat → Option ρ → Option ρ) (N : Nat) (hB : ∀ k acc, k < N → (∃ r, acc = some r) → ∃ r, B k acc = some r) : ∀ (d k : Nat) (K : Option ρ), d + k = N → (∃ r, K = some r) → ∃ r, goN B K d k = some r
  | 0, k, K, _, h => h
  | d + 1, k, K, hk, h => hB k _ (by omega) (goN_tot B N hB d (k + 1) K (by omega) h)
theorem refB_tot (L : List Form) (l : List Col) (K : Option Int) (h : ∃ r, K = some r) : ∃ r, goN (refB L l) K l.length 0 = some r := by
  refine goN_tot (refB L l) l.length (fun k acc hk ⟨r, hr⟩ => ?_) l.length 0 K (by omega) h
  unfold refB
  rw [List.getElem?_eq_getElem hk, hr]
  show ∃ r', (bif _ then some 5 else some r) = some r'
  generalize ((l[k].fKind == 3) && (!(sEqF l[k].fClass (ByteArray.mk #[65, 78, 89])) && decide (formIx L l[k].fClass < 0))) = q
  cases q <;> exact ⟨_, rfl⟩
theorem f16_tot {l : List Form} {n : Nat} (hz : FormSz n l) (h9 : 100 < n) (hn : n < 4611686018427387904) : ∃ e, f16 n l = some e := by
  unfold f16 f16_k8
  rw [f16_l hz h9 hn, f16_l2 hz hn]
  have h2 : ∃ r, goN (refsB l) f16_k66 l.length 0 = some r := by
    refine goN_tot (refsB l) l.length (fun k acc hk h => ?_) l.length 0 _ (by omega) ⟨0, rfl⟩
    unfold refsB
    rw [List.getElem?_eq_getElem hk]
    exact refB_tot l l[k].fCols acc h
  have h1 : ∃ r, goN (formsB l) (goN (refsB l) f16_k66 l.length 0) l.length 0 = some r := by
    refine goN_tot (formsB l) l.length (fun k acc hk ⟨r, hr⟩ => ?_) l.length 0 _ (by omega) h2
    unfold formsB
    rw [List.getElem?_eq_getElem hk, hr]
    show ∃ r', (bif formE (l.take k) l[k] == 0 then some r else some (formE (l.take k) l[k])) = some r'
    cases formE (l.take k) l[k] == 0 <;> exact ⟨_, rfl⟩
  obtain ⟨r, hr⟩ := h1
  rw [hr]
  cases decide (len l > 24) <;> exact ⟨_, rfl⟩
end Go.Proofs
end
section
namespace Go.Proofs
open Go.Vm
theorem formed_vals {g : Graph} (h : (formedR g != 0) = false) : ∀ x ∈ g.fNodes, ∀ v ∈ x.fVals, valB v (len g.fNodes) = true := by
  intro x hx v hv
  unfold formedR at h
  have h2 : (g.fNodes.any fun x => x.fVals.any fun v => !valB v (len g.fNodes)) = false := by
    revert h
    cases (decide (len g.fNodes > 400) || decide (len g.fRoots > 60)) <;> cases (g.fNodes.any fun x => decide (len x.fVals > 30)) <;> cases (g.fNodes.any fun x => x.fVals.any fun v => !valB v (len g.fNodes)) <;> intro h <;> first | rfl | exact nomatch h
  have h3 := List.any_eq_false.1 h2 x hx
  have h4 : (x.fVals.any fun v => !valB v (len g.fNodes)) = false := by simpa using h3
  have h5 := List.any_eq_false.1 h4 v hv
  simpa using h5
theorem f59_f19 {L : List Form} {g : Graph} {n : Nat} {e : Int} (he : f16 n L = some e) (hz : FormSz n L) (hg : GraphSz n g) (h9 : 100 < n) (hn : n < 4611686018427387904) : ∃ d, f59 n L g = some d ∧ f19 n L g = some (bif e != 0 then e else d) := by
  have hL := hz.1
  unfold f19
  rw [← f16_f17 hz h9 hn, he]
  simp only [Option.bind_some, f59, f74_eq hg hn, f60_eq hg hn]
  have key : ∀ d : Int, (bif (e != 0) then some e else some d) = some (bif e != 0 then e else d) := fun d => by cases (e != 0) <;> rfl
  cases hf : (formedR g != 0)
  · simp only [cond_false]
    rw [f97_eq hg.1 hL hn, f19_a hL hg hn]
    simp only [Option.bind_some]
    cases hc : (g.fNodes.any fun x => decide (formIx L x.fClass < 0))
    · have hc' : ∀ x ∈ g.fNodes, decide (formIx L x.fClass < 0) = false := fun x hx => by
        have := List.any_eq_false.1 hc x hx
        simpa using this
      have hv := formed_vals hf
      simp only [cond_false, f19_k18]
      rw [f71_eq hz hg hn hv hc', f19_b hz hg hn hv hc']
      simp only [Option.bind_some, f50_eq, f19_k49]
      cases g.fNodes.all (nodeB L g) <;> exact ⟨_, rfl, key _⟩
    · exact ⟨_, rfl, key _⟩
  · exact ⟨_, rfl, key _⟩
end Go.Proofs
end
section
set_option linter.unusedVariables false
namespace Go.Proofs
open Go.Vm
def ANY : ByteArray := ByteArray.mk #[65, 78, 89]
def noS : ByteArray := ByteArray.mk #[]
theorem goN_zero {B : Nat → Option Int → Option Int} (E : Nat → Int) (N : Nat) (hB : ∀ k acc, k < N → B k acc = bif E k == 0 then acc else some (E k)) :
    ∀ (d k : Nat) (K : Option Int), d + k = N → goN B K d k = some 0 → (∀ j, k ≤ j → j < N → E j = 0) ∧ K = some 0
  | 0, k, K, hk, h => ⟨fun j h1 h2 => by omega, h⟩
  | d + 1, k, K, hk, h => by
    have h1 : B k (goN B K d (k + 1)) = some 0 := h
    rw [hB k _ (by omega)] at h1
    cases he : (E k == 0) with
    | false =>
      rw [he] at h1
      simp only [cond_false, Option.some.injEq] at h1
      rw [h1] at he
      cases he
    | true =>
      rw [he] at h1
      obtain ⟨h2, h3⟩ := goN_zero E N hB d (k + 1) K (by omega) h1
      refine ⟨fun j hj hjN => ?_, h3⟩
      by_cases hjk : j = k
      · subst hjk; exact eq_of_beq he
      · exact h2 j (by omega) hjN
structure FormsOk (l : List Form) : Prop where
  len : l.length ≤ 24
  nm : ∀ f ∈ l, classB f.fName = true
  dup : ∀ (k : Nat) (hk : k < l.length), formIx (l.take k) l[k].fName < 0
  cl : ∀ f ∈ l, f.fCols.length ≤ 30
  ce : ∀ f ∈ l, ∀ (k : Nat) (hk : k < f.fCols.length), colE (f.fCols.take k) f.fCols[k] = 0
  rf : ∀ f ∈ l, ∀ c ∈ f.fCols, ((c.fKind == 3) && (!(sEqF c.fClass ANY) && decide (formIx l c.fClass < 0))) = false
theorem colsR_zero {l : List Col} (h : colsR l = 0) : l.length ≤ 30 ∧ ∀ (k : Nat) (hk : k < l.length), colE (l.take k) l[k] = 0 := by
  unfold colsR at h
  cases hd : decide (len l > 30) with
  | true => rw [hd] at h; cases h
  | false =>
    rw [hd] at h
    have hl : l.length ≤ 30 := by
      have := of_decide_eq_false hd
      unfold len at this
      omega
    refine ⟨hl, ?_⟩
    obtain ⟨e, h1, _⟩ := goN_cols l none l.length 0 (by omega)
    have h0 : (goN (colsB l) (some 0) l.length 0).getD 0 = 0 := h
    rw [h1] at h0
    simp only [Option.getD_some] at h0
    subst h0
    have hz := goN_zero (B := colsB l) (fun k => match l[k]? with | some c => colE (l.take k) c | none => 0) l.length (fun k acc hk => by
      unfold colsB
      rw [List.getElem?_eq_getElem hk]) l.length 0 (some 0) (by omega) h1
    intro k hk
    have := hz.1 k (Nat.zero_le _) hk
    simp only [List.getElem?_eq_getElem hk] at this
    exact this
theorem refB_zero {L : List Form} {l : List Col} {K : Option Int} (h : goN (refB L l) K l.length 0 = some 0) :
    (∀ c ∈ l, ((c.fKind == 3) && (!(sEqF c.fClass ANY) && decide (formIx L c.fClass < 0))) = false) ∧ K = some 0 := by
  have hz := goN_zero (B := refB L l) (fun k => match l[k]? with | some c => (bif (c.fKind == 3) && (!(sEqF c.fClass ANY) && decide (formIx L c.fClass < 0)) then 5 else 0) | none => 0) l.length (fun k acc hk => by
      unfold refB
      simp only [List.getElem?_eq_getElem hk]
      show (bif (l[k].fKind == 3) && (!(sEqF l[k].fClass ANY) && decide (formIx L l[k].fClass < 0)) then some 5 else acc) = _
      cases ((l[k].fKind == 3) && (!(sEqF l[k].fClass ANY) && decide (formIx L l[k].fClass < 0))) <;> rfl) l.length 0 K (by omega) h
  refine ⟨fun c hc => ?_, hz.2⟩
  obtain ⟨k, hk, rfl⟩ := List.getElem_of_mem hc
  have := hz.1 k (Nat.zero_le _) hk
  simp only [List.getElem?_eq_getElem hk] at this
  revert this
  cases ((l[k].fKind == 3) && (!(sEqF l[k].fClass ANY) && decide (formIx L l[k].fClass < 0))) <;> intro this
  · rfl
  · cases this
theorem refsB_zero {L : List Form} {K : Option Int} : ∀ (d k : Nat), d + k = L.length → goN (refsB L) K d k = some 0 →
    ∀ j, k ≤ j → (hj : j < L.length) → ∀ c ∈ L[j].fCols, ((c.fKind == 3) && (!(sEqF c.fClass ANY) && decide (formIx L c.fClass < 0))) = false
  | 0, k, hk, h => fun j h1 h2 => by omega
  | d + 1, k, hk, h => by
    have hlt : k < L.length := by omega
    have h1 : refsB L k (goN (refsB L) K d (k + 1)) = some 0 := h
    unfold refsB at h1
    rw [List.getElem?_eq_getElem hlt] at h1
    obtain ⟨h2, h3⟩ := refB_zero h1
    intro j hj hjN
    by_cases hjk : j = k
    · subst hjk; exact h2
    · exact refsB_zero d (k + 1) (by omega) h3 j (by omega) hjN
theorem formsOk_of {n : Nat} {l : List Form} (hz : FormSz n l) (h9 : 100 < n) (hn : n < 4611686018427387904) (h : f16 n l = some 0) : FormsOk l := by
  unfold f16 f16_k8 at h
  rw [f16_l hz h9 hn, f16_l2 hz hn] at h
  cases hd : decide (Go.Vm.len l > 24) with
  | true => rw [hd] at h; cases h
  | false =>
    rw [hd] at h
    simp only [cond_false] at h
    have hl : l.length ≤ 24 := by
      have := of_decide_eq_false hd
      unfold Go.Vm.len at this
      omega
    have hz1 := goN_zero (B := formsB l) (fun k => match l[k]? with | some f => formE (l.take k) f | none => 0) l.length (fun k acc hk => by
      unfold formsB
      simp only [List.getElem?_eq_getElem hk]) l.length 0 _ (by omega) h
    have hf : ∀ (k : Nat) (hk : k < l.length), formE (l.take k) l[k] = 0 := fun k hk => by
      have := hz1.1 k (Nat.zero_le _) hk
      simp only [List.getElem?_eq_getElem hk] at this
      exact this
    have hr := refsB_zero l.length 0 (by omega) hz1.2
    have parts : ∀ (k : Nat) (hk : k < l.length), classB l[k].fName = true ∧ formIx (l.take k) l[k].fName < 0 ∧ colsR l[k].fCols = 0 := fun k hk => by
      have := hf k hk
      unfold formE at this
      cases h1 : classB l[k].fName with
      | false => rw [h1] at this; cases this
      | true =>
        rw [h1] at this
        cases h2 : decide (formIx (l.take k) l[k].fName ≥ 0) with
        | true => rw [h2] at this; cases this
        | false =>
          rw [h2] at this
          have h3 := of_decide_eq_false h2
          exact ⟨rfl, by omega, this⟩
    refine ⟨hl, fun f hf' => ?_, fun k hk => (parts k hk).2.1, fun f hf' => ?_, fun f hf' => ?_, fun f hf' => ?_⟩
    · obtain ⟨k, hk, rfl⟩ := List.getElem_of_mem hf'; exact (parts k hk).1
    · obtain ⟨k, hk, rfl⟩ := List.getElem_of_mem hf'; exact (colsR_zero (parts k hk).2.2).1
    · obtain ⟨k, hk, rfl⟩ := List.getElem_of_mem hf'; exact (colsR_zero (parts k hk).2.2).2
    · obtain ⟨k, hk, rfl⟩ := List.getElem_of_mem hf'; exact hr k (Nat.zero_le _) hk
theorem colE_zero {pre : List Col} {c : Col} (h : colE pre c = 0) : smallB c.fName = true ∧ colIx pre c.fName < 0 ∧ inR c.fKind 1 3 = true ∧ ((c.fKind != 3) = true → sEqF c.fClass noS = true) := by
  unfold colE at h
  cases h1 : smallB c.fName with
  | false => rw [h1] at h; cases h
  | true =>
    rw [h1] at h
    cases h2 : decide (colIx pre c.fName ≥ 0) with
    | true => rw [h2] at h; cases h
    | false =>
      rw [h2] at h
      have h3 := of_decide_eq_false h2
      cases h4 : inR c.fKind 1 3 with
      | false => rw [h4] at h; cases h
      | true =>
        refine ⟨rfl, by omega, rfl, fun h5 => ?_⟩
        rw [h4, h5] at h
        cases h6 : sEqF c.fClass (ByteArray.mk #[]) with
        | false => rw [h6] at h; cases h
        | true => exact h6
theorem FormsOk.col {l : List Form} (h : FormsOk l) {f : Form} (hf : f ∈ l) {c : Col} (hc : c ∈ f.fCols) : smallB c.fName = true ∧ inR c.fKind 1 3 = true ∧ ((c.fKind != 3) = true → sEqF c.fClass noS = true) := by
  obtain ⟨k, hk, rfl⟩ := List.getElem_of_mem hc
  obtain ⟨h1, _, h3, h4⟩ := colE_zero (h.ce f hf k hk)
  exact ⟨h1, h3, h4⟩
theorem ix_find {α : Type} (p : α → Bool) : ∀ (l : List α) (k : Nat), (l.find? p = none ∧ l.any p = false ∧ ixOf p l k = -1) ∨ ∃ (j : Nat) (x : α), l.find? p = some x ∧ l.any p = true ∧ ixOf p l k = ((k + j : Nat) : Int) ∧ l[j]? = some x ∧ p x = true
  | [], k => .inl ⟨rfl, rfl, rfl⟩
  | y :: l, k => by
    cases hy : p y with
    | true => exact .inr ⟨0, y, by simp [hy], by simp [hy], by simp [ixOf, hy], rfl, hy⟩
    | false =>
      rcases ix_find p l (k + 1) with ⟨h1, h2, h3⟩ | ⟨j, x, h1, h2, h3, h4, h5⟩
      · exact .inl ⟨by simp [hy, h1], by simp [hy, h2], by simp [ixOf, hy, h3]⟩
      · exact .inr ⟨j + 1, x, by simp [hy, h1], by simp [hy, h2], by simp only [ixOf, hy, cond_false, h3]; congr 1; omega, by simpa using h4, h5⟩
theorem ix_neg {α : Type} (p : α → Bool) (l : List α) : decide (ixOf p l 0 < 0) = !l.any p := by
  rcases ix_find p l 0 with ⟨h1, h2, h3⟩ | ⟨j, x, h1, h2, h3, h4, h5⟩
  · rw [h2, h3]; rfl
  · rw [h2, h3]
    have : ¬ (((0 + j : Nat) : Int) < 0) := by omega
    exact decide_eq_false this
theorem ix_gi {α : Type} {p : α → Bool} {l : List α} (h : 0 ≤ ixOf p l 0) : ∃ x, l.find? p = some x ∧ gi l (ixOf p l 0) = some x ∧ x ∈ l ∧ p x = true := by
  rcases ix_find p l 0 with ⟨h1, h2, h3⟩ | ⟨j, x, h1, h2, h3, h4, h5⟩
  · rw [h3] at h; omega
  · refine ⟨x, h1, ?_, List.mem_of_getElem? h4, h5⟩
    rw [h3, Nat.zero_add, gi_nat, h4]
theorem sEqF_eq {a b : ByteArray} (h : sEqF a b = true) : a = b := by
  unfold sEqF at h
  have h1 : a.data.toList = b.data.toList := eq_of_beq h
  cases a; cases b
  exact congrArg ByteArray.mk (Array.toList_inj.1 h1)
end Go.Proofs
end
section
set_option linter.unusedVariables false
set_option maxRecDepth 100000
set_option maxHeartbeats 4000000
namespace Go.Proofs
open Go.Vm
attribute [local irreducible] vOps vDraw vC vK retP retH PureSpec HSpec
theorem ic34 : fnIC Try.prog H0 34 = some ([.tmp 4], 26, (.seq (.ops [zO 4 (.mov (.c (.bool false)))]) (.seq (.seq (.ops [zM 6 0, zO 7 (.len false (.t 6)), zM 8 1, zO 9 (.len false (.t 8)), zO 10 (.sc (.bin .neq 3) [(.t 7), (.t 9)])]) (.cond (.t 10)
  (.seq (.ops [zO 4 (.mov (.c (.bool false)))]) .ret)
  .skip)) (.seq (.seq (.ops [zM 11 0, zO 12 (.len false (.t 11)), zO 13 (.mov (.c (.int .i64 0)))]) (.block 0 (.loop (.seq (.ops [zO 14 (.sc (.bin .lss 3) [(.t 13), (.t 12)])]) (.seq (.cond (.t 14)
  .skip
  (.exit 0)) (.seq (.block 1 (.seq (.ops [zM 15 13, zM 5 15]) (.seq (.draw [] [zQ (zM 16 0), zQ (zM 17 5), zQ (zO 18 (.iaddr 2 (.t 16) (.t 17))), zQ (zO 19 (.ld (.t 18) 2 true)), zQ (zM 20 1), zQ (zM 21 5), zQ (zO 22 (.iaddr 2 (.t 20) (.t 21))), zQ (zO 23 (.ld (.t 22) 2 true)), zQ (zO 24 (.sc (.bin .neq 59) [(.t 19), (.t 23)]))]) (.cond (.t 24)
  (.seq (.ops [zO 4 (.mov (.c (.bool false)))]) .ret)
  .skip)))) (.ops [zO 25 (.sc (.bin .add 3) [(.t 13), (.c (.int .i64 1))]), zM 13 25]))))))) (.seq (.ops [zO 4 (.mov (.c (.bool true)))]) .ret))))) := by kernel_rfl
def f34_k10 : Option Bool := some true
def f34_l14 (a1 : (List Val)) (a2 : (List Val)) (k10k : Option Bool) : Nat → Int → Option Bool
  | 0, _ => none
  | m14 + 1, x29 => (bif (decide (x29 < (len a1))) then ((gi a1 x29).bind fun x37 => ((gi a2 x29).bind fun x39 => (bif (!(Val.eqB x37 x39)) then some false else (f34_l14 a1 a2 (k10k) m14 (wr .i64 (x29 + 1)))))) else (k10k))
def f34 (n : Nat) (a1 : (List Val)) (a2 : (List Val)) : Option Bool := (bif ((len a1) != (len a2)) then some false else (f34_l14 a1 a2 (f34_k10) n 0))
def f34_r (r : Bool) : AV := (vB r)
theorem p_f34 {n : Nat} {a1 : (List Val)} {a2 : (List Val)} {r : Bool} (h : f34 n a1 a2 = some r) : PureSpec Try.prog 34 [(vL Val.c a1), (vL Val.c a2)] (f34_r r) := by
 rw [f34.eq_1] at h
 refine pure_of hmix ic34 ?_
 refine go_to (mkd (.val undef) 26 0 [(0, (vL Val.c a1)), (1, (vL Val.c a2))]) ?_
 refine s_so fun N3 k3 w3 => ?_
 refine o_r1 [(4, (vB false))] ?_
 refine o_end (k3 _ ?_)
 refine s_seq fun N4 k4 w4 => ?_
 refine s_so fun N5 k5 w5 => ?_
 refine o_r1 [(6, (vL Val.c a1))] ?_
 refine o_o (one_len (f := Val.c) (l := a1)) ?_
 refine o_r1 [(8, (vL Val.c a2))] ?_
 refine o_o (one_len (f := Val.c) (l := a2)) ?_
 refine o_r1 [(10, (vB ((len a1) != (len a2))))] ?_
 refine o_end (k5 _ ?_)
 refine i_c [10] h (fun h => ?_) (fun h => ?_)
 · refine s_so fun N9 k9 w9 => ?_
   refine o_r1 [] ?_
   refine o_end (k9 _ ?_)
   exact c_ret (rets [] [(vB false)] [(vB false)] h)
 · refine c_skip (k4 _ ?_)
   refine J0 (r := r) ⟨(mkd .any 26 0 []), []⟩ (f34_k10) ?_ ?_
   · intro h
     rw [f34_k10.eq_1] at h
     refine s_so fun N44 k44 w44 => ?_
     refine o_r1 [(4, (vB true))] ?_
     refine o_end (k44 _ ?_)
     exact c_ret (rets [] [(vB true)] [(vB true)] h)
   · intro N10 w10
     refine s_so fun N11 k11 w11 => ?_
     refine o_r1 [(11, (vL Val.c a1))] ?_
     refine o_o (one_len (f := Val.c) (l := a1)) ?_
     refine o_r1 [(13, (vI 0))] ?_
     refine o_end (k11 _ ?_)
     refine c_block fun E13 hE13 hO13 => ?_
     refine W1 (fun (x29 : Int) => ⟨(mkd .any 26 0 [(0, (vL Val.c a1)), (1, (vL Val.c a2)), (12, (vI (len a1))), (13, (vI x29))]), []⟩) (f34_l14 a1 a2 (f34_k10)) h (wkm [0, 1, 12, 13] wh_nil) (by intros; rw [f34_l14.eq_1]) ?_
     intro m14 x29 h N14 w14
     rw [f34_l14.eq_2] at h
     refine s_so fun N30 k30 w30 => ?_
     refine o_r1 [(14, (vB (decide (x29 < (len a1)))))] ?_
     refine o_end (k30 _ ?_)
     refine s_seq fun N31 k31 w31 => ?_
     refine i_c [14] h (fun h => ?_) (fun h => ?_)
     · refine c_skip (k31 _ ?_)
       refine s_seq fun N33 k33 w33 => ?_
       refine c_block fun E34 hE34 hO34 => ?_
       refine s_so fun N35 k35 w35 => ?_
       refine o_r2 [(5, (vI x29)), (15, (vI x29))] ?_
       refine o_end (k35 _ ?_)
       refine s_seq fun N36 k36 w36 => ?_
       refine c_draw0 ?_
       refine d_r2 [(16, (vL Val.c a1)), (17, (vI x29))] ?_
       refine bnd h fun x37 g38 h => ?_
       refine d_o (one_ia (f := Val.c) (ki := .i64) g38) ?_
       refine d_r3 [(19, (.agg [(vI x37.fKind), (vI x37.fN)])), (20, (vL Val.c a2)), (21, (vI x29))] ?_
       refine bnd h fun x39 g40 h => ?_
       refine d_o (one_ia (f := Val.c) (ki := .i64) g40) ?_
       refine d_r1 [(23, (.agg [(vI x39.fKind), (vI x39.fN)]))] ?_
       refine d_o (one_sc (vs := [.agg #[.int .i64 x37.fKind, .int .i64 x37.fN], .agg #[.int .i64 x39.fKind, .int .i64 x39.fN]]) (sc_nes (r := Val.eqB x37 x39))) ?_
       refine d_end (k36 _ ?_)
       refine i_c [24] h (fun h => ?_) (fun h => ?_)
       · refine s_so fun N43 k43 w43 => ?_
         refine o_r1 [(4, (vB false))] ?_
         refine o_end (w43 _ ⟨(mkd .any 26 0 [(4, (vB false))]), []⟩ (wkm [4] wh_nil) ?_)
         exact c_ret (rets [] [(vB false)] [(vB false)] h)
       · refine c_skip (k33 _ ?_)
         refine c_ops ?_
         refine o_r2 [(13, (vI (wr .i64 (x29 + 1)))), (25, (vI (wr .i64 (x29 + 1))))] ?_
         exact o_end (w14 _ _ (wkm [0, 1, 12, 13] wh_nil) h)
     · refine c_exit (hE13 _ ?_)
       exact w10 _ (wkm [] wh_nil) h
theorem ic26 : fnIC Try.prog H0 26 = some ([.cell 2 26, .tmp 3, .tmp 4], 21, (.seq (.ops [zO 1 (.box 0 26 [(0, 57, 2, 0), (1, 59, 2, 0)] (.t 0)), zO 2 (.alloc 0 26 [(0, 57, 2, 0), (1, 59, 2, 0)] [(.slice none 0 0), (.slice none 0 0)]), zO 3 (.nil 0 3 1), zO 4 (.mov (.c (.int .i64 0)))]) (.seq (.seq (.ops [zO 8 (.ld (.t 1) 2 true), zO 9 (.call 74 [(.t 8)]), zM 5 9]) (.seq (.ops [zM 10 5, zO 11 (.sc (.bin .neq 30) [(.t 10), (.c (.int .i64 0))])]) (.cond (.t 11)
  (.seq (.ops [zO 12 (.bld [(.slice none 0 0), (.slice none 0 0)] []), zM 13 5, zU (.st true 2 [(0, 57, 2, 0), (1, 59, 2, 0)] (.t 2) (.t 12)), zO 3 (.nil 0 3 1), zM 4 13]) .ret)
  .skip))) (.seq (.ops [zO 15 (.ld (.t 1) 2 true), zO 16 (.call 62 [(.t 15)]), zM 14 16, zO 17 (.ext (.t 14) 0), zO 18 (.ext (.t 14) 1), zO 6 (.alloc 0 26 [(0, 57, 2, 0), (1, 59, 2, 0)] [(.slice none 0 0), (.slice none 0 0)]), zU (.st true 2 [(0, 57, 2, 0), (1, 59, 2, 0)] (.t 6) (.t 17)), zM 7 18]) (.seq (.ops [zO 19 (.ld (.t 6) 2 true), zM 20 7, zU (.st true 2 [(0, 57, 2, 0), (1, 59, 2, 0)] (.t 2) (.t 19)), zM 3 20, zO 4 (.mov (.c (.int .i64 0)))]) .ret))))) := by kernel_rfl
def f26 (n : Nat) (a1 : Graph) : Option (Graph × (List Int) × Int) := ((f74 n a1).bind fun r5 => (bif (r5 != 0) then some ((Graph.mk [] []), [], r5) else ((f62 n a1).bind fun r11 => some (r11.1, r11.2, 0))))
def f26_r (r : (Graph × (List Int) × Int)) : AV := (.tup [(.agg [(vL Node.c r.1.fNodes), (vL Val.c r.1.fRoots)]), (vL cI r.2.1), (vI r.2.2)])
theorem p_f26 {n : Nat} {a1 : Graph} {r : (Graph × (List Int) × Int)} (h : f26 n a1 = some r) : PureSpec Try.prog 26 [(.agg [(vL Node.c a1.fNodes), (vL Val.c a1.fRoots)])] (f26_r r) := by
 rw [f26.eq_1] at h
 refine pure_of hmix ic26 ?_
 refine go_to (mkd (.val undef) 21 0 [(0, (.agg [(vL Node.c a1.fNodes), (vL Val.c a1.fRoots)]))]) ?_
 refine s_so fun N2 k2 w2 => ?_
 refine o_h4 [(1, (.ptr 0 0)), (2, (.ptr 3 0)), (3, (.own 4 0)), (4, (vI 0))] [(some (.box 26 [(vL Node.c a1.fNodes), (vL Val.c a1.fRoots)])), (some (.row 57 2 (List.map Node.c []))), (some (.row 59 2 (List.map Val.c []))), (some (.box 26 [(.own 1 0), (.own 2 0)])), (some (.row 3 1 (List.map cI [])))] ?_
 refine o_end (k2 _ ?_)
 refine s_seq fun N3 k3 w3 => ?_
 refine s_so fun N4 k4 w4 => ?_
 refine o_r1 [(8, (.agg [(vL Node.c a1.fNodes), (vL Val.c a1.fRoots)]))] ?_
 refine bnd h fun r5 g6 h => ?_
 refine o_o (one_call (p_f74 g6)) ?_
 refine o_r1 [(5, (vI r5))] ?_
 refine o_end (k4 _ ?_)
 refine s_so fun N7 k7 w7 => ?_
 refine o_r2 [(10, (vI r5)), (11, (vB (r5 != 0)))] ?_
 refine o_end (k7 _ ?_)
 refine i_c [11] h (fun h => ?_) (fun h => ?_)
 · refine s_so fun N9 k9 w9 => ?_
   refine o_h5 [(3, (.own 7 0)), (4, (vI r5)), (12, (.agg [(.val (.slice none 0 0)), (.val (.slice none 0 0))])), (13, (vI r5))] [(some (.box 26 [(vL Node.c a1.fNodes), (vL Val.c a1.fRoots)])), (some (.row 57 2 (List.map Node.c []))), (some (.row 59 2 (List.map Val.c []))), (some (.box 26 [(.own 5 0), (.own 6 0)])), (some (.row 3 1 (List.map cI []))), (some (.row 57 2 (List.map Node.c []))), (some (.row 59 2 (List.map Val.c []))), (some (.row 3 1 (List.map cI [])))] ?_
   refine o_end (k9 _ ?_)
   exact c_ret (retsF [5, 6, 7] [(.agg [(.own 5 0), (.own 6 0)]), (.own 7 0), (vI r5)] [(.agg [(vL Node.c []), (vL Val.c [])]), (vL cI []), (vI r5)] ⟨(fz_agg ⟨(fz_own (g := Node.c) (l := []) (t := 57) (sz := 2) Node.p), (fz_own (g := Val.c) (l := []) (t := 59) (sz := 2) Val.p), trivial⟩), (fz_own (g := cI) (l := []) (t := 3) (sz := 1) cK_p), fz_v, trivial⟩ h)
 · refine c_skip (k3 _ ?_)
   refine s_so fun N10 k10 w10 => ?_
   refine o_r1 [(15, (.agg [(vL Node.c a1.fNodes), (vL Val.c a1.fRoots)]))] ?_
   refine bnd h fun r11 g12 h => ?_
   refine o_o (one_call (p_f62 g12)) ?_
   refine o_h6 [(6, (.ptr 7 0)), (7, (vL cI r11.2)), (14, (.tup [(.agg [(vL Node.c r11.1.fNodes), (vL Val.c r11.1.fRoots)]), (vL cI r11.2)])), (17, (.agg [(vL Node.c r11.1.fNodes), (vL Val.c r11.1.fRoots)])), (18, (vL cI r11.2))] [(some (.box 26 [(vL Node.c a1.fNodes), (vL Val.c a1.fRoots)])), (some (.row 57 2 (List.map Node.c []))), (some (.row 59 2 (List.map Val.c []))), (some (.box 26 [(.own 1 0), (.own 2 0)])), (some (.row 3 1 (List.map cI []))), (some (.row 57 2 (List.map Node.c []))), (some (.row 59 2 (List.map Val.c []))), (some (.box 26 [(vL Node.c r11.1.fNodes), (vL Val.c r11.1.fRoots)]))] ?_
   refine o_end (k10 _ ?_)
   refine s_so fun N13 k13 w13 => ?_
   refine o_h5 [(3, (vL cI r11.2)), (19, (.agg [(vL Node.c r11.1.fNodes), (vL Val.c r11.1.fRoots)])), (20, (vL cI r11.2))] [(some (.box 26 [(vL Node.c a1.fNodes), (vL Val.c a1.fRoots)])), (some (.row 57 2 (List.map Node.c []))), (some (.row 59 2 (List.map Val.c []))), (some (.box 26 [(vL Node.c r11.1.fNodes), (vL Val.c r11.1.fRoots)])), (some (.row 3 1 (List.map cI []))), (some (.row 57 2 (List.map Node.c []))), (some (.row 59 2 (List.map Val.c []))), (some (.box 26 [(vL Node.c r11.1.fNodes), (vL Val.c r11.1.fRoots)]))] ?_
   refine o_end (w13 _ ⟨(mkd .any 21 0 [(2, (.ptr 3 0)), (3, (vL cI r11.2)), (4, (vI 0))]), [none, none, none, (some (.box 26 [(vL Node.c r11.1.fNodes), (vL Val.c r11.1.fRoots)]))]⟩ (wkm [2, 3, 4] (wh_drop (wh_drop (wh_drop (whk wh_nil))))) ?_)
   exact c_ret (rets [] [(.agg [(vL Node.c r11.1.fNodes), (vL Val.c r11.1.fRoots)]), (vL cI r11.2), (vI 0)] [(.agg [(vL Node.c r11.1.fNodes), (vL Val.c r11.1.fRoots)]), (vL cI r11.2), (vI 0)] h)
theorem ic109 : fnIC Try.prog H0 109 = some ([.tmp 4], 17, (.seq (.ops [zO 2 (.box 0 57 [(1, 59, 2, 0)] (.t 0)), zO 3 (.box 0 57 [(1, 59, 2, 0)] (.t 1)), zO 4 (.mov (.c (.bool false)))]) (.seq (.ops [zO 5 (.faddr (.t 2) 0), zO 6 (.ld (.t 5) 1 false), zO 7 (.faddr (.t 3) 0), zO 8 (.ld (.t 7) 1 false), zO 9 (.sc (.bin .eql 9) [(.t 6), (.t 8)]), zM 10 9, zG 11 10 true (.faddr (.t 2) 1), zG 12 10 true (.ld (.t 11) 1 false), zG 13 10 true (.faddr (.t 3) 1), zG 14 10 true (.ld (.t 13) 1 false), zG 15 10 true (.call 34 [(.t 12), (.t 14)]), zO 16 (.pick (.t 10) (.t 15) (.c (.bool false))), zM 4 16]) .ret))) := by kernel_rfl
def f109_k4 (x9 : Bool) : Option Bool := some x9
def f109 (n : Nat) (a1 : Node) (a2 : Node) : Option Bool := (bif (sEqF a1.fClass a2.fClass) then ((f34 n a1.fVals a2.fVals).bind fun r7 => (f109_k4 r7)) else (f109_k4 false))
def f109_r (r : Bool) : AV := (vB r)
theorem p_f109 {n : Nat} {a1 : Node} {a2 : Node} {r : Bool} (h : f109 n a1 a2 = some r) : PureSpec Try.prog 109 [(.agg [(vS a1.fClass), (vL Val.c a1.fVals)]), (.agg [(vS a2.fClass), (vL Val.c a2.fVals)])] (f109_r r) := by
 rw [f109.eq_1] at h
 refine pure_of hmix ic109 ?_
 refine go_to (mkd (.val undef) 17 0 [(0, (.agg [(vS a1.fClass), (vL Val.c a1.fVals)])), (1, (.agg [(vS a2.fClass), (vL Val.c a2.fVals)]))]) ?_
 refine s_so fun N3 k3 w3 => ?_
 refine o_h3 [(2, (.ptr 0 0)), (3, (.ptr 1 0)), (4, (vB false))] [(some (.box 57 [(vS a1.fClass), (vL Val.c a1.fVals)])), (some (.box 57 [(vS a2.fClass), (vL Val.c a2.fVals)]))] ?_
 refine o_end (k3 _ ?_)
 refine J1 (r := r) (fun (x9 : Bool) => ⟨(mkd .any 17 0 [(4, (vB x9))]), []⟩) (f109_k4) ?_ ?_
 · intro x9 h
   rw [f109_k4.eq_1] at h
   exact c_ret (rets [] [(vB x9)] [(vB x9)] h)
 · intro N4 w4
   refine c_ops ?_
   refine o_r4 [(5, (.ptr 0 0)), (6, (vS a1.fClass)), (7, (.ptr 1 0)), (8, (vS a2.fClass))] ?_
   refine o_o (one_sc (vs := [.string a1.fClass, .string a2.fClass]) (str_eql a1.fClass a2.fClass)) ?_
   refine o_r1 [(10, (vB (sEqF a1.fClass a2.fClass)))] ?_
   refine i_o [9, 10] h (fun h => ?_) (fun h => ?_)
   · refine o_r4 [(11, (.ptr 0 1)), (12, (vL Val.c a1.fVals)), (13, (.ptr 1 1)), (14, (vL Val.c a2.fVals))] ?_
     refine bnd h fun r7 g8 h => ?_
     refine o_g ?_
     refine o_o (one_call (p_f34 g8)) ?_
     refine o_r2 [(4, (vB r7)), (16, (vB r7))] ?_
     exact o_end (w4 _ _ (wkm [4] wh_nil) h)
   · refine o_r7 [(11, (.val undef)), (12, (.val undef)), (13, (.val undef)), (14, (.val undef)), (15, (.val undef)), (16, (vB false))] ?_
     exact o_end (w4 _ _ (wkm [4] wh_nil) h)
theorem ic108 : fnIC Try.prog H0 108 = some ([.tmp 6], 32, (.seq (.ops [zO 6 (.mov (.c (.bool false)))]) (.seq (.seq (.ops [zM 10 0, zO 11 (.len false (.t 10)), zM 12 1, zO 13 (.len false (.t 12)), zO 14 (.sc (.bin .neq 3) [(.t 11), (.t 13)])]) (.cond (.t 14)
  (.seq (.ops [zO 6 (.mov (.c (.bool false)))]) .ret)
  .skip)) (.seq (.seq (.ops [zM 15 0, zO 16 (.len false (.t 15)), zO 17 (.mov (.c (.int .i64 0)))]) (.block 0 (.loop (.seq (.ops [zO 18 (.sc (.bin .lss 3) [(.t 17), (.t 16)])]) (.seq (.cond (.t 18)
  .skip
  (.exit 0)) (.seq (.block 1 (.seq (.ops [zM 19 17, zO 20 (.iaddr 2 (.t 15) (.t 17)), zO 21 (.ld (.t 20) 2 true), zO 8 (.alloc 0 57 [(1, 59, 2, 0)] [(.string ⟨#[]⟩), (.slice none 0 0)]), zM 7 19, zU (.st true 2 [(1, 59, 2, 0)] (.t 8) (.t 21))]) (.seq (.ops [zM 22 1, zM 23 7, zO 24 (.iaddr 2 (.t 22) (.t 23)), zO 25 (.ld (.t 24) 2 true), zO 9 (.alloc 0 57 [(1, 59, 2, 0)] [(.string ⟨#[]⟩), (.slice none 0 0)]), zU (.st true 2 [(1, 59, 2, 0)] (.t 9) (.t 25))]) (.seq (.ops [zM 26 2, zO 27 (.ld (.t 8) 2 true), zO 28 (.ld (.t 9) 2 true), zO 29 (.callv (.t 26) [(.t 27), (.t 28)]), zO 30 (.sc (.un .not) [(.t 29)])]) (.cond (.t 30)
  (.seq (.ops [zO 6 (.mov (.c (.bool false)))]) .ret)
  .skip))))) (.ops [zO 31 (.sc (.bin .add 3) [(.t 17), (.c (.int .i64 1))]), zM 17 31]))))))) (.seq (.ops [zO 6 (.mov (.c (.bool true)))]) .ret))))) := by kernel_rfl
def f108_k10 : Option Bool := some true
def f108_l14 (a1 : (List Node)) (a2 : (List Node)) (n : Nat) (k10k : Option Bool) : Nat → Int → Option Bool
  | 0, _ => none
  | m14 + 1, x31 => (bif (decide (x31 < (len a1))) then ((gi a1 x31).bind fun x38 => ((gi a2 x31).bind fun x41 => ((f109 n x38 x41).bind fun r44 => (bif (!r44) then some false else (f108_l14 a1 a2 n (k10k) m14 (wr .i64 (x31 + 1))))))) else (k10k))
def f108 (n : Nat) (a1 : (List Node)) (a2 : (List Node)) : Option Bool := (bif ((len a1) != (len a2)) then some false else (f108_l14 a1 a2 n (f108_k10) n 0))
def f108_r (r : Bool) : AV := (vB r)
theorem p_f108 {n : Nat} {a1 : (List Node)} {a2 : (List Node)} {r : Bool} (h : f108 n a1 a2 = some r) : PureSpec Try.prog 108 [(vL Node.c a1), (vL Node.c a2), (.fn 109 [])] (f108_r r) := by
 rw [f108.eq_1] at h
 refine pure_of hmix ic108 ?_
 refine go_to (mkd (.val undef) 32 0 [(0, (vL Node.c a1)), (1, (vL Node.c a2)), (2, (.fn 109 []))]) ?_
 refine s_so fun N3 k3 w3 => ?_
 refine o_r1 [(6, (vB false))] ?_
 refine o_end (k3 _ ?_)
 refine s_seq fun N4 k4 w4 => ?_
 refine s_so fun N5 k5 w5 => ?_
 refine o_r1 [(10, (vL Node.c a1))] ?_
 refine o_o (one_len (f := Node.c) (l := a1)) ?_
 refine o_r1 [(12, (vL Node.c a2))] ?_
 refine o_o (one_len (f := Node.c) (l := a2)) ?_
 refine o_r1 [(14, (vB ((len a1) != (len a2))))] ?_
 refine o_end (k5 _ ?_)
 refine i_c [14] h (fun h => ?_) (fun h => ?_)
 · refine s_so fun N9 k9 w9 => ?_
   refine o_r1 [] ?_
   refine o_end (k9 _ ?_)
   exact c_ret (rets [] [(vB false)] [(vB false)] h)
 · refine c_skip (k4 _ ?_)
   refine J0 (r := r) ⟨(mkd .any 32 0 []), []⟩ (f108_k10) ?_ ?_
   · intro h
     rw [f108_k10.eq_1] at h
     refine s_so fun N48 k48 w48 => ?_
     refine o_r1 [(6, (vB true))] ?_
     refine o_end (k48 _ ?_)
     exact c_ret (rets [] [(vB true)] [(vB true)] h)
   · intro N10 w10
     refine s_so fun N11 k11 w11 => ?_
     refine o_r1 [(15, (vL Node.c a1))] ?_
     refine o_o (one_len (f := Node.c) (l := a1)) ?_
     refine o_r1 [(17, (vI 0))] ?_
     refine o_end (k11 _ ?_)
     refine c_block fun E13 hE13 hO13 => ?_
     refine W1 (fun (x31 : Int) => ⟨(mkd .any 32 0 [(1, (vL Node.c a2)), (2, (.fn 109 [])), (15, (vL Node.c a1)), (16, (vI (len a1))), (17, (vI x31))]), []⟩) (f108_l14 a1 a2 n (f108_k10)) h (wkm [1, 2, 15, 16, 17] wh_nil) (by intros; rw [f108_l14.eq_1]) ?_
     intro m14 x31 h N14 w14
     rw [f108_l14.eq_2] at h
     refine s_so fun N32 k32 w32 => ?_
     refine o_r1 [(18, (vB (decide (x31 < (len a1)))))] ?_
     refine o_end (k32 _ ?_)
     refine s_seq fun N33 k33 w33 => ?_
     refine i_c [18] h (fun h => ?_) (fun h => ?_)
     · refine c_skip (k33 _ ?_)
       refine s_seq fun N35 k35 w35 => ?_
       refine c_block fun E36 hE36 hO36 => ?_
       refine s_so fun N37 k37 w37 => ?_
       refine o_r1 [(19, (vI x31))] ?_
       refine bnd h fun x38 g39 h => ?_
       refine o_o (one_ia (f := Node.c) (ki := .i64) g39) ?_
       refine o_h4 [(7, (vI x31)), (8, (.ptr 1 0)), (21, (.agg [(vS x38.fClass), (vL Val.c x38.fVals)]))] [(some (.row 59 2 (List.map Val.c []))), (some (.box 57 [(vS x38.fClass), (vL Val.c x38.fVals)]))] ?_
       refine o_end (k37 _ ?_)
       refine s_so fun N40 k40 w40 => ?_
       refine o_r2 [(22, (vL Node.c a2)), (23, (vI x31))] ?_
       refine bnd h fun x41 g42 h => ?_
       refine o_o (one_ia (f := Node.c) (ki := .i64) g42) ?_
       refine o_h3 [(9, (.ptr 3 0)), (25, (.agg [(vS x41.fClass), (vL Val.c x41.fVals)]))] [(some (.row 59 2 (List.map Val.c []))), (some (.box 57 [(vS x38.fClass), (vL Val.c x38.fVals)])), (some (.row 59 2 (List.map Val.c []))), (some (.box 57 [(vS x41.fClass), (vL Val.c x41.fVals)]))] ?_
       refine o_end (k40 _ ?_)
       refine s_so fun N43 k43 w43 => ?_
       refine o_r3 [(26, (.fn 109 [])), (27, (.agg [(vS x38.fClass), (vL Val.c x38.fVals)])), (28, (.agg [(vS x41.fClass), (vL Val.c x41.fVals)]))] ?_
       refine bnd h fun r44 g45 h => ?_
       refine o_o (one_callv (caps := []) (p_f109 g45)) ?_
       refine o_r1 [(30, (vB (!r44)))] ?_
       refine o_end (k43 _ ?_)
       refine i_c [30] h (fun h => ?_) (fun h => ?_)
       · refine s_so fun N47 k47 w47 => ?_
         refine o_r1 [(6, (vB false))] ?_
         refine s_tm (mkd .any 32 0 [(1, (vL Node.c a2)), (2, (.fn 109 [])), (6, (vB false)), (7, (vI x31)), (8, (.ptr 1 0)), (9, (.ptr 3 0)), (15, (vL Node.c a1)), (16, (vI (len a1))), (17, (vI x31)), (18, (vB true)), (19, (vI x31)), (20, (.iptr [(vS x38.fClass), (vL Val.c x38.fVals)])), (21, (.agg [(vS x38.fClass), (vL Val.c x38.fVals)])), (22, (vL Node.c a2)), (23, (vI x31)), (24, (.iptr [(vS x41.fClass), (vL Val.c x41.fVals)])), (25, (.agg [(vS x41.fClass), (vL Val.c x41.fVals)])), (26, (.fn 109 [])), (27, (.agg [(vS x38.fClass), (vL Val.c x38.fVals)])), (28, (.agg [(vS x41.fClass), (vL Val.c x41.fVals)])), (29, (vB r44)), (30, (vB true))]) ?_
         refine o_end (w47 _ ⟨(mkd .any 32 0 [(6, (vB false))]), []⟩ (wkm [6] wh_nil) ?_)
         exact c_ret (rets [] [(vB false)] [(vB false)] h)
       · refine c_skip (w35 _ ⟨(mkd .any 32 0 [(1, (vL Node.c a2)), (2, (.fn 109 [])), (15, (vL Node.c a1)), (16, (vI (len a1))), (17, (vI x31))]), []⟩ (wkm [1, 2, 15, 16, 17] wh_nil) ?_)
         refine c_ops ?_
         refine o_r2 [(17, (vI (wr .i64 (x31 + 1)))), (31, (vI (wr .i64 (x31 + 1))))] ?_
         exact o_end (w14 _ _ (wkm [1, 2, 15, 16, 17] wh_nil) h)
     · refine c_exit (hE13 _ ?_)
       exact w10 _ (wkm [] wh_nil) h
theorem ic72 : fnIC Try.prog H0 72 = some ([.tmp 4], 17, (.seq (.ops [zO 2 (.box 0 26 [(0, 57, 2, 0), (1, 59, 2, 0)] (.t 0)), zO 3 (.box 0 26 [(0, 57, 2, 0), (1, 59, 2, 0)] (.t 1)), zO 4 (.mov (.c (.bool false)))]) (.seq (.ops [zO 5 (.faddr (.t 2) 1), zO 6 (.ld (.t 5) 1 false), zO 7 (.faddr (.t 3) 1), zO 8 (.ld (.t 7) 1 false), zO 9 (.call 34 [(.t 6), (.t 8)]), zM 10 9, zG 11 10 true (.faddr (.t 2) 0), zG 12 10 true (.ld (.t 11) 1 false), zG 13 10 true (.faddr (.t 3) 0), zG 14 10 true (.ld (.t 13) 1 false), zG 15 10 true (.call 108 [(.t 12), (.t 14), (.f 109)]), zO 16 (.pick (.t 10) (.t 15) (.c (.bool false))), zM 4 16]) .ret))) := by kernel_rfl
def f72_k4 (x10 : Bool) : Option Bool := some x10
def f72 (n : Nat) (a1 : Graph) (a2 : Graph) : Option Bool := ((f34 n a1.fRoots a2.fRoots).bind fun r5 => (bif r5 then ((f108 n a1.fNodes a2.fNodes).bind fun r8 => (f72_k4 r8)) else (f72_k4 false)))
def f72_r (r : Bool) : AV := (vB r)
theorem p_f72 {n : Nat} {a1 : Graph} {a2 : Graph} {r : Bool} (h : f72 n a1 a2 = some r) : PureSpec Try.prog 72 [(.agg [(vL Node.c a1.fNodes), (vL Val.c a1.fRoots)]), (.agg [(vL Node.c a2.fNodes), (vL Val.c a2.fRoots)])] (f72_r r) := by
 rw [f72.eq_1] at h
 refine pure_of hmix ic72 ?_
 refine go_to (mkd (.val undef) 17 0 [(0, (.agg [(vL Node.c a1.fNodes), (vL Val.c a1.fRoots)])), (1, (.agg [(vL Node.c a2.fNodes), (vL Val.c a2.fRoots)]))]) ?_
 refine s_so fun N3 k3 w3 => ?_
 refine o_h3 [(2, (.ptr 0 0)), (3, (.ptr 1 0)), (4, (vB false))] [(some (.box 26 [(vL Node.c a1.fNodes), (vL Val.c a1.fRoots)])), (some (.box 26 [(vL Node.c a2.fNodes), (vL Val.c a2.fRoots)]))] ?_
 refine o_end (k3 _ ?_)
 refine J1 (r := r) (fun (x10 : Bool) => ⟨(mkd .any 17 0 [(4, (vB x10))]), []⟩) (f72_k4) ?_ ?_
 · intro x10 h
   rw [f72_k4.eq_1] at h
   exact c_ret (rets [] [(vB x10)] [(vB x10)] h)
 · intro N4 w4
   refine c_ops ?_
   refine o_r4 [(5, (.ptr 0 1)), (6, (vL Val.c a1.fRoots)), (7, (.ptr 1 1)), (8, (vL Val.c a2.fRoots))] ?_
   refine bnd h fun r5 g6 h => ?_
   refine o_o (one_call (p_f34 g6)) ?_
   refine o_r1 [(10, (vB r5))] ?_
   refine i_o [9, 10] h (fun h => ?_) (fun h => ?_)
   · refine o_r4 [(11, (.ptr 0 0)), (12, (vL Node.c a1.fNodes)), (13, (.ptr 1 0)), (14, (vL Node.c a2.fNodes))] ?_
     refine bnd h fun r8 g9 h => ?_
     refine o_g ?_
     refine o_o (one_call (p_f108 g9)) ?_
     refine o_r2 [(4, (vB r8)), (16, (vB r8))] ?_
     exact o_end (w4 _ _ (wkm [4] wh_nil) h)
   · refine o_r7 [(11, (.val undef)), (12, (.val undef)), (13, (.val undef)), (14, (.val undef)), (15, (.val undef)), (16, (vB false))] ?_
     exact o_end (w4 _ _ (wkm [4] wh_nil) h)
theorem ic28 : fnIC Try.prog H0 28 = some ([.tmp 4, .tmp 5], 33, (.seq (.ops [zO 2 (.box 0 26 [(0, 57, 2, 0), (1, 59, 2, 0)] (.t 0)), zO 3 (.box 0 26 [(0, 57, 2, 0), (1, 59, 2, 0)] (.t 1)), zO 4 (.mov (.c (.bool false))), zO 5 (.mov (.c (.int .i64 0)))]) (.seq (.seq (.draw [] [zQ (zO 11 (.ld (.t 2) 2 true)), zQ (zO 12 (.call 74 [(.t 11)])), zQ (zO 13 (.ld (.t 3) 2 true)), zQ (zO 14 (.call 74 [(.t 13)])), zQ (zO 15 (.isl 1 [(.t 12), (.t 14)])), zQ (zO 16 (.call 49 [(.t 15)])), zQ (zM 6 16)]) (.seq (.ops [zM 17 6, zO 18 (.sc (.bin .neq 30) [(.t 17), (.c (.int .i64 0))])]) (.cond (.t 18)
  (.seq (.ops [zM 19 6, zO 4 (.mov (.c (.bool false))), zM 5 19]) .ret)
  .skip))) (.seq (.ops [zO 21 (.ld (.t 2) 2 true), zO 22 (.call 62 [(.t 21)]), zM 20 22, zO 23 (.ext (.t 20) 0), zO 24 (.ext (.t 20) 1), zO 7 (.alloc 0 26 [(0, 57, 2, 0), (1, 59, 2, 0)] [(.slice none 0 0), (.slice none 0 0)]), zU (.st true 2 [(0, 57, 2, 0), (1, 59, 2, 0)] (.t 7) (.t 23)), zM 8 24]) (.seq (.ops [zO 26 (.ld (.t 3) 2 true), zO 27 (.call 62 [(.t 26)]), zM 25 27, zO 28 (.ext (.t 25) 0), zO 29 (.ext (.t 25) 1), zO 9 (.alloc 0 26 [(0, 57, 2, 0), (1, 59, 2, 0)] [(.slice none 0 0), (.slice none 0 0)]), zU (.st true 2 [(0, 57, 2, 0), (1, 59, 2, 0)] (.t 9) (.t 28)), zM 10 29]) (.seq (.ops [zO 30 (.ld (.t 7) 2 true), zO 31 (.ld (.t 9) 2 true), zO 32 (.call 72 [(.t 30), (.t 31)]), zM 4 32, zO 5 (.mov (.c (.int .i64 0)))]) .ret)))))) := by kernel_rfl
def f28 (n : Nat) (a1 : Graph) (a2 : Graph) : Option (Bool × Int) := ((f74 n a1).bind fun r6 => ((f74 n a2).bind fun r8 => ((f49 n [r6, r8]).bind fun r10 => (bif (r10 != 0) then some (false, r10) else ((f62 n a1).bind fun r16 => ((f62 n a2).bind fun r19 => ((f72 n r16.1 r19.1).bind fun r22 => some (r22, 0))))))))
def f28_r (r : (Bool × Int)) : AV := (.tup [(vB r.1), (vI r.2)])
theorem p_f28 {n : Nat} {a1 : Graph} {a2 : Graph} {r : (Bool × Int)} (h : f28 n a1 a2 = some r) : PureSpec Try.prog 28 [(.agg [(vL Node.c a1.fNodes), (vL Val.c a1.fRoots)]), (.agg [(vL Node.c a2.fNodes), (vL Val.c a2.fRoots)])] (f28_r r) := by
 rw [f28.eq_1] at h
 refine pure_of hmix ic28 ?_
 refine go_to (mkd (.val undef) 33 0 [(0, (.agg [(vL Node.c a1.fNodes), (vL Val.c a1.fRoots)])), (1, (.agg [(vL Node.c a2.fNodes), (vL Val.c a2.fRoots)]))]) ?_
 refine s_so fun N3 k3 w3 => ?_
 refine o_h4 [(2, (.ptr 0 0)), (3, (.ptr 1 0)), (4, (vB false)), (5, (vI 0))] [(some (.box 26 [(vL Node.c a1.fNodes), (vL Val.c a1.fRoots)])), (some (.box 26 [(vL Node.c a2.fNodes), (vL Val.c a2.fRoots)]))] ?_
 refine o_end (k3 _ ?_)
 refine s_seq fun N4 k4 w4 => ?_
 refine s_seq fun N5 k5 w5 => ?_
 refine c_draw0 ?_
 refine d_r1 [(11, (.agg [(vL Node.c a1.fNodes), (vL Val.c a1.fRoots)]))] ?_
 refine bnd h fun r6 g7 h => ?_
 refine d_o (one_call (p_f74 g7)) ?_
 refine d_r1 [(13, (.agg [(vL Node.c a2.fNodes), (vL Val.c a2.fRoots)]))] ?_
 refine bnd h fun r8 g9 h => ?_
 refine d_o (one_call (p_f74 g9)) ?_
 refine d_r1 [(15, (vL cI [r6, r8]))] ?_
 refine bnd h fun r10 g11 h => ?_
 refine d_o (one_call (p_f49 g11)) ?_
 refine d_r1 [(6, (vI r10))] ?_
 refine d_end (k5 _ ?_)
 refine s_so fun N12 k12 w12 => ?_
 refine o_r2 [(17, (vI r10)), (18, (vB (r10 != 0)))] ?_
 refine o_end (k12 _ ?_)
 refine i_c [18] h (fun h => ?_) (fun h => ?_)
 · refine s_so fun N14 k14 w14 => ?_
   refine o_r3 [(5, (vI r10)), (19, (vI r10))] ?_
   refine o_end (k14 _ ?_)
   exact c_ret (rets [] [(vB false), (vI r10)] [(vB false), (vI r10)] h)
 · refine c_skip (k4 _ ?_)
   refine s_so fun N15 k15 w15 => ?_
   refine o_r1 [(21, (.agg [(vL Node.c a1.fNodes), (vL Val.c a1.fRoots)]))] ?_
   refine bnd h fun r16 g17 h => ?_
   refine o_o (one_call (p_f62 g17)) ?_
   refine o_h6 [(7, (.ptr 4 0)), (8, (vL cI r16.2)), (20, (.tup [(.agg [(vL Node.c r16.1.fNodes), (vL Val.c r16.1.fRoots)]), (vL cI r16.2)])), (23, (.agg [(vL Node.c r16.1.fNodes), (vL Val.c r16.1.fRoots)])), (24, (vL cI r16.2))] [(some (.box 26 [(vL Node.c a1.fNodes), (vL Val.c a1.fRoots)])), (some (.box 26 [(vL Node.c a2.fNodes), (vL Val.c a2.fRoots)])), (some (.row 57 2 (List.map Node.c []))), (some (.row 59 2 (List.map Val.c []))), (some (.box 26 [(vL Node.c r16.1.fNodes), (vL Val.c r16.1.fRoots)]))] ?_
   refine s_tm (mkd (.val undef) 33 0 [(0, (.agg [(vL Node.c a1.fNodes), (vL Val.c a1.fRoots)])), (1, (.agg [(vL Node.c a2.fNodes), (vL Val.c a2.fRoots)])), (2, (.ptr 0 0)), (3, (.ptr 1 0)), (4, (vB false)), (5, (vI 0)), (6, (vI r10)), (7, (.ptr 4 0)), (8, (vL cI r16.2)), (11, (.agg [(vL Node.c a1.fNodes), (vL Val.c a1.fRoots)])), (12, (vI r6)), (13, (.agg [(vL Node.c a2.fNodes), (vL Val.c a2.fRoots)])), (14, (vI r8)), (15, (vL cI [r6, r8])), (16, (vI r10)), (17, (vI r10)), (18, (vB false)), (20, (.tup [(.agg [(vL Node.c r16.1.fNodes), (vL Val.c r16.1.fRoots)]), (vL cI r16.2)])), (21, (.agg [(vL Node.c a1.fNodes), (vL Val.c a1.fRoots)])), (22, (.tup [(.agg [(vL Node.c r16.1.fNodes), (vL Val.c r16.1.fRoots)]), (vL cI r16.2)])), (23, (.agg [(vL Node.c r16.1.fNodes), (vL Val.c r16.1.fRoots)])), (24, (vL cI r16.2))]) ?_
   refine o_end (w15 _ ⟨(mkd .any 33 0 [(3, (.ptr 1 0)), (7, (.ptr 4 0))]), [none, (some (.box 26 [(vL Node.c a2.fNodes), (vL Val.c a2.fRoots)])), none, none, (some (.box 26 [(vL Node.c r16.1.fNodes), (vL Val.c r16.1.fRoots)]))]⟩ (wkm [3, 7] (wh_drop (whk (wh_drop (wh_drop (whk wh_nil)))))) ?_)
   refine s_so fun N18 k18 w18 => ?_
   refine o_r1 [(26, (.agg [(vL Node.c a2.fNodes), (vL Val.c a2.fRoots)]))] ?_
   refine bnd h fun r19 g20 h => ?_
   refine o_o (one_call (p_f62 g20)) ?_
   refine o_h6 [(9, (.ptr 7 0)), (10, (vL cI r19.2)), (25, (.tup [(.agg [(vL Node.c r19.1.fNodes), (vL Val.c r19.1.fRoots)]), (vL cI r19.2)])), (28, (.agg [(vL Node.c r19.1.fNodes), (vL Val.c r19.1.fRoots)])), (29, (vL cI r19.2))] [none, (some (.box 26 [(vL Node.c a2.fNodes), (vL Val.c a2.fRoots)])), none, none, (some (.box 26 [(vL Node.c r16.1.fNodes), (vL Val.c r16.1.fRoots)])), (some (.row 57 2 (List.map Node.c []))), (some (.row 59 2 (List.map Val.c []))), (some (.box 26 [(vL Node.c r19.1.fNodes), (vL Val.c r19.1.fRoots)]))] ?_
   refine o_end (k18 _ ?_)
   refine s_so fun N21 k21 w21 => ?_
   refine o_r2 [(30, (.agg [(vL Node.c r16.1.fNodes), (vL Val.c r16.1.fRoots)])), (31, (.agg [(vL Node.c r19.1.fNodes), (vL Val.c r19.1.fRoots)]))] ?_
   refine bnd h fun r22 g23 h => ?_
   refine o_o (one_call (p_f72 g23)) ?_
   refine o_r2 [(4, (vB r22)), (5, (vI 0))] ?_
   refine o_end (k21 _ ?_)
   exact c_ret (rets [] [(vB r22), (vI 0)] [(vB r22), (vI 0)] h)
theorem ic8 : fnIC Try.prog H0 8 = some ([.tmp 8], 179, (.seq (.ops [zO 7 (.box 0 26 [(0, 57, 2, 0), (1, 59, 2, 0)] (.t 3)), zO 8 (.mov (.c (.bool false)))]) (.seq (.seq (.ops [zM 20 0, zO 21 (.call 13 [(.t 20)]), zO 22 (.sc (.un .not) [(.t 21)]), zM 23 22, zN 24 23 false 1, zG 25 23 false (.call 13 [(.t 24)]), zG 26 23 false (.sc (.un .not) [(.t 25)]), zO 27 (.pick (.t 23) (.c (.bool true)) (.t 26)), zM 28 27, zN 29 28 false 2, zG 30 28 false (.call 31 [(.t 29)]), zG 31 28 false (.sc (.un .not) [(.t 30)]), zO 32 (.pick (.t 28) (.c (.bool true)) (.t 31)), zM 33 32, zG 34 33 false (.ld (.t 7) 2 true), zG 35 33 false (.call 14 [(.t 34)]), zG 36 33 false (.sc (.un .not) [(.t 35)]), zO 37 (.pick (.t 33) (.c (.bool true)) (.t 36))]) (.cond (.t 37)
  (.seq (.ops [zO 38 (.call 15 []), zM 8 38]) .ret)
  .skip)) (.seq (.ops [zM 40 0, zM 41 1, zM 42 2, zO 43 (.ld (.t 7) 2 true), zO 44 (.call 32 [(.t 40), (.t 41), (.t 42), (.t 43)]), zM 39 44, zO 45 (.ext (.t 39) 0), zO 46 (.ext (.t 39) 1), zO 47 (.ext (.t 39) 2), zO 9 (.alloc 0 26 [(0, 57, 2, 0), (1, 59, 2, 0)] [(.slice none 0 0), (.slice none 0 0)]), zO 10 (.alloc 0 64 [] [(.int .i64 0), (.string ⟨#[]⟩)]), zU (.st true 2 [(0, 57, 2, 0), (1, 59, 2, 0)] (.t 9) (.t 45)), zU (.st true 2 [] (.t 10) (.t 46)), zM 11 47]) (.seq (.seq (.ops [zM 48 0, zM 49 1, zM 50 2, zO 51 (.call 33 [(.t 48), (.t 49), (.t 50)]), zO 52 (.sc (.bin .neq 30) [(.t 51), (.c (.int .i64 0))]), zM 53 52, zN 54 53 false 0, zG 55 53 false (.ld (.t 7) 2 true), zG 56 53 false (.call 18 [(.t 54), (.t 55)]), zG 57 53 false (.sc (.bin .neq 30) [(.t 56), (.c (.int .i64 0))]), zO 58 (.pick (.t 53) (.c (.bool true)) (.t 57))]) (.cond (.t 58)
  (.seq (.ops [zO 59 (.call 15 []), zM 60 59, zN 61 60 true 11, zG 62 60 true (.sc (.bin .neq 30) [(.t 61), (.c (.int .i64 0))]), zO 63 (.pick (.t 60) (.t 62) (.c (.bool false))), zM 64 63, zG 65 64 true (.ld (.t 10) 2 true), zG 66 64 true (.bld [(.int .i64 0), (.string ⟨#[]⟩)] []), zG 67 64 true (.sc (.bin .eql 64) [(.t 65), (.t 66)]), zO 68 (.pick (.t 64) (.t 67) (.c (.bool false))), zM 69 68, zG 70 69 true (.faddr (.t 9) 0), zG 71 69 true (.ld (.t 70) 1 false), zG 72 69 true (.len false (.t 71)), zG 73 69 true (.sc (.bin .eql 3) [(.t 72), (.c (.int .i64 0))]), zO 74 (.pick (.t 69) (.t 73) (.c (.bool false))), zM 8 74]) .ret)
  .skip)) (.seq (.seq (.ops [zM 75 11, zO 76 (.sc (.bin .eql 30) [(.t 75), (.c (.int .i64 10))])]) (.cond (.t 76)
  (.seq (.ops [zO 77 (.call 15 []), zM 78 77, zG 79 78 true (.faddr (.t 10) 0), zG 80 78 true (.ld (.t 79) 1 false), zG 81 78 true (.sc (.bin .geq 3) [(.t 80), (.c (.int .i64 0))]), zO 82 (.pick (.t 78) (.t 81) (.c (.bool false))), zM 83 82, zG 84 83 true (.faddr (.t 10) 0), zG 85 83 true (.ld (.t 84) 1 false), zG 86 83 true (.faddr (.t 7) 0), zG 87 83 true (.ld (.t 86) 1 false), zG 88 83 true (.len false (.t 87)), zG 89 83 true (.sc (.bin .lss 3) [(.t 85), (.t 88)]), zO 90 (.pick (.t 83) (.t 89) (.c (.bool false))), zM 91 90, zG 92 91 true (.faddr (.t 10) 1), zG 93 91 true (.ld (.t 92) 1 false), zG 94 91 true (.sc (.bin .neq 9) [(.t 93), (.c (.string ⟨#[]⟩))]), zO 95 (.pick (.t 91) (.t 94) (.c (.bool false))), zM 96 95, zG 97 96 true (.faddr (.t 9) 0), zG 98 96 true (.ld (.t 97) 1 false), zG 99 96 true (.len false (.t 98)), zG 100 96 true (.faddr (.t 9) 1), zG 101 96 true (.ld (.t 100) 1 false), zG 102 96 true (.len false (.t 101)), zG 103 96 true (.sc (.bin .add 3) [(.t 99), (.t 102)]), zG 104 96 true (.sc (.bin .eql 3) [(.t 103), (.c (.int .i64 0))]), zO 105 (.pick (.t 96) (.t 104) (.c (.bool false))), zM 8 105]) .ret)
  .skip)) (.seq (.seq (.ops [zM 106 11, zO 107 (.sc (.bin .neq 30) [(.t 106), (.c (.int .i64 0))]), zM 108 107, zN 109 108 false 1, zG 110 108 false (.ld (.t 9) 2 true), zG 111 108 false (.call 18 [(.t 109), (.t 110)]), zG 112 108 false (.sc (.bin .neq 30) [(.t 111), (.c (.int .i64 0))]), zO 113 (.pick (.t 108) (.c (.bool true)) (.t 112)), zM 114 113, zG 115 114 false (.faddr (.t 9) 0), zG 116 114 false (.ld (.t 115) 1 false), zG 117 114 false (.len false (.t 116)), zG 118 114 false (.faddr (.t 7) 0), zG 119 114 false (.ld (.t 118) 1 false), zG 120 114 false (.len false (.t 119)), zG 121 114 false (.sc (.bin .neq 3) [(.t 117), (.t 120)]), zO 122 (.pick (.t 114) (.c (.bool true)) (.t 121)), zM 123 122, zG 124 123 false (.faddr (.t 9) 1), zG 125 123 false (.ld (.t 124) 1 false), zG 126 123 false (.faddr (.t 7) 1), zG 127 123 false (.ld (.t 126) 1 false), zG 128 123 false (.call 34 [(.t 125), (.t 127)]), zG 129 123 false (.sc (.un .not) [(.t 128)]), zO 130 (.pick (.t 123) (.c (.bool true)) (.t 129)), zM 131 130, zG 132 131 false (.ld (.t 10) 2 true), zG 133 131 false (.bld [(.int .i64 0), (.string ⟨#[]⟩)] []), zG 134 131 false (.sc (.bin .neq 64) [(.t 132), (.t 133)]), zO 135 (.pick (.t 131) (.c (.bool true)) (.t 134))]) (.cond (.t 135)
  (.seq (.ops [zO 8 (.mov (.c (.bool false)))]) .ret)
  .skip)) (.seq (.ops [zO 137 (.ld (.t 7) 2 true), zO 138 (.call 26 [(.t 137)]), zM 136 138, zO 139 (.ext (.t 136) 0), zO 140 (.ext (.t 136) 1), zO 141 (.ext (.t 136) 2), zO 12 (.alloc 0 26 [(0, 57, 2, 0), (1, 59, 2, 0)] [(.slice none 0 0), (.slice none 0 0)]), zU (.st true 2 [(0, 57, 2, 0), (1, 59, 2, 0)] (.t 12) (.t 139)), zM 13 140, zM 14 141]) (.seq (.seq (.ops [zM 142 14, zO 143 (.sc (.bin .neq 30) [(.t 142), (.c (.int .i64 0))])]) (.cond (.t 143)
  (.seq (.ops [zO 8 (.mov (.c (.bool false)))]) .ret)
  .skip)) (.seq (.seq (.ops [zO 144 (.faddr (.t 12) 0), zO 145 (.ld (.t 144) 1 false), zO 146 (.len false (.t 145)), zO 147 (.faddr (.t 7) 0), zO 148 (.ld (.t 147) 1 false), zO 149 (.len false (.t 148)), zO 150 (.sc (.bin .lss 3) [(.t 146), (.t 149)])]) (.cond (.t 150)
  (.seq (.ops [zO 151 (.call 15 []), zM 8 151]) .ret)
  .skip)) (.seq (.ops [zM 153 0, zM 154 1, zM 155 2, zO 156 (.ld (.t 12) 2 true), zO 157 (.call 32 [(.t 153), (.t 154), (.t 155), (.t 156)]), zM 152 157, zO 158 (.ext (.t 152) 0), zO 159 (.ext (.t 152) 1), zO 160 (.ext (.t 152) 2), zO 15 (.alloc 0 26 [(0, 57, 2, 0), (1, 59, 2, 0)] [(.slice none 0 0), (.slice none 0 0)]), zO 16 (.alloc 0 64 [] [(.int .i64 0), (.string ⟨#[]⟩)]), zU (.st true 2 [(0, 57, 2, 0), (1, 59, 2, 0)] (.t 15) (.t 158)), zU (.st true 2 [] (.t 16) (.t 159)), zM 17 160]) (.seq (.ops [zO 162 (.ld (.t 9) 2 true), zO 163 (.ld (.t 15) 2 true), zO 164 (.call 28 [(.t 162), (.t 163)]), zM 161 164, zO 165 (.ext (.t 161) 0), zO 166 (.ext (.t 161) 1), zM 18 165, zM 19 166]) (.seq (.ops [zO 167 (.call 15 []), zM 168 167, zN 169 168 true 17, zG 170 168 true (.sc (.bin .eql 30) [(.t 169), (.c (.int .i64 0))]), zO 171 (.pick (.t 168) (.t 170) (.c (.bool false))), zM 172 171, zN 173 172 true 19, zG 174 172 true (.sc (.bin .eql 30) [(.t 173), (.c (.int .i64 0))]), zO 175 (.pick (.t 172) (.t 174) (.c (.bool false))), zM 176 175, zN 177 176 true 18, zO 178 (.pick (.t 176) (.t 177) (.c (.bool false))), zM 8 178]) .ret))))))))))))) := by kernel_rfl
def f8_k36 (x44 : Bool) : Option Bool := some x44
def f8_k48 (x59 : Bool) : Option Bool := some x59
def f8_k97 (x103 : Bool) : Option Bool := some x103
def f8_k61 (n : Nat) (a4 : Graph) (a1 : (List Form)) (a2 : (List Form)) (a3 : (List Rule)) (r25 : (Graph × Refusal × Int)) (x73 : Bool) : Option Bool := (bif x73 then some false else ((f26 n a4).bind fun r77 => (bif (r77.2.2 != 0) then some false else (bif (decide ((len r77.1.fNodes) < (len a4.fNodes))) then ((f15 40).bind fun r89 => some r89) else ((f32 n a1 a2 a3 r77.1).bind fun r92 => ((f28 n r25.1 r92.1).bind fun r95 => ((f15 40).bind fun r98 => (bif r98 then (bif (r92.2.2 == 0) then (bif (r95.2 == 0) then (f8_k97 r95.1) else (f8_k97 false)) else (f8_k97 false)) else (f8_k97 false)))))))))
def f8_k28 (r25 : (Graph × Refusal × Int)) (a4 : Graph) (n : Nat) (a2 : (List Form)) (a1 : (List Form)) (a3 : (List Rule)) (x34 : Bool) : Option Bool := (bif x34 then ((f15 40).bind fun r37 => (bif r37 then (bif (r25.2.2 != 0) then (bif (Refusal.eqB r25.2.1 (Refusal.mk 0 (ByteArray.mk #[]))) then (f8_k36 ((len r25.1.fNodes) == 0)) else (f8_k36 false)) else (f8_k36 false)) else (f8_k36 false))) else (bif (r25.2.2 == 10) then ((f15 40).bind fun r49 => (bif r49 then (bif (decide (r25.2.1.fNode ≥ 0)) then (bif (decide (r25.2.1.fNode < (len a4.fNodes))) then (bif (!(sEqF r25.2.1.fCol (ByteArray.mk #[]))) then (f8_k48 ((wr .i64 ((len r25.1.fNodes) + (len r25.1.fRoots))) == 0)) else (f8_k48 false)) else (f8_k48 false)) else (f8_k48 false)) else (f8_k48 false))) else (bif (r25.2.2 != 0) then (f8_k61 n a4 a1 a2 a3 r25 true) else ((f18 n a2 r25.1).bind fun r63 => (bif (r63 != 0) then (f8_k61 n a4 a1 a2 a3 r25 true) else (bif ((len r25.1.fNodes) != (len a4.fNodes)) then (f8_k61 n a4 a1 a2 a3 r25 true) else ((f34 n r25.1.fRoots a4.fRoots).bind fun r69 => (bif (!r69) then (f8_k61 n a4 a1 a2 a3 r25 true) else (f8_k61 n a4 a1 a2 a3 r25 (!(Refusal.eqB r25.2.1 (Refusal.mk 0 (ByteArray.mk #[])))))))))))))
def f8_k7 (n : Nat) (a1 : (List Form)) (a2 : (List Form)) (a3 : (List Rule)) (a4 : Graph) (x19 : Bool) : Option Bool := (bif x19 then ((f15 40).bind fun r22 => some r22) else ((f32 n a1 a2 a3 a4).bind fun r25 => ((f33 n a1 a2 a3).bind fun r29 => (bif (r29 != 0) then (f8_k28 r25 a4 n a2 a1 a3 true) else ((f18 n a1 a4).bind fun r32 => (f8_k28 r25 a4 n a2 a1 a3 (r32 != 0)))))))
def f8 (n : Nat) (a1 : (List Form)) (a2 : (List Form)) (a3 : (List Rule)) (a4 : Graph) : Option Bool := ((f13 n a1).bind fun r8 => (bif (!r8) then (f8_k7 n a1 a2 a3 a4 true) else ((f13 n a2).bind fun r11 => (bif (!r11) then (f8_k7 n a1 a2 a3 a4 true) else ((f31 n a3).bind fun r14 => (bif (!r14) then (f8_k7 n a1 a2 a3 a4 true) else ((f14 n a4).bind fun r17 => (f8_k7 n a1 a2 a3 a4 (!r17)))))))))
def f8_r (r : Bool) : AV := (vB r)
theorem p_f8 {n : Nat} {a1 : (List Form)} {a2 : (List Form)} {a3 : (List Rule)} {a4 : Graph} {r : Bool} (h : f8 n a1 a2 a3 a4 = some r) : PureSpec Try.prog 8 [(vL Form.c a1), (vL Form.c a2), (vL Rule.c a3), (.agg [(vL Node.c a4.fNodes), (vL Val.c a4.fRoots)])] (f8_r r) := by
 rw [f8.eq_1] at h
 refine pure_of hmix ic8 ?_
 refine go_to (mkd (.val undef) 179 0 [(0, (vL Form.c a1)), (1, (vL Form.c a2)), (2, (vL Rule.c a3)), (3, (.agg [(vL Node.c a4.fNodes), (vL Val.c a4.fRoots)]))]) ?_
 refine s_so fun N5 k5 w5 => ?_
 refine o_h2 [(7, (.ptr 0 0)), (8, (vB false))] [(some (.box 26 [(vL Node.c a4.fNodes), (vL Val.c a4.fRoots)]))] ?_
 refine o_end (k5 _ ?_)
 refine s_seq fun N6 k6 w6 => ?_
 refine J1 (r := r) (fun (x19 : Bool) => ⟨(mkd .any 179 0 [(0, (vL Form.c a1)), (1, (vL Form.c a2)), (2, (vL Rule.c a3)), (7, (.ptr 0 0)), (37, (vB x19))]), [(some (.box 26 [(vL Node.c a4.fNodes), (vL Val.c a4.fRoots)]))]⟩) (f8_k7 n a1 a2 a3 a4) ?_ ?_
 · intro x19 h
   rw [f8_k7.eq_1] at h
   refine i_c [37] h (fun h => ?_) (fun h => ?_)
   · refine s_so fun N21 k21 w21 => ?_
     refine bnd h fun r22 g23 h => ?_
     refine o_o (one_call (p_f15 g23)) ?_
     refine o_r1 [(8, (vB r22))] ?_
     refine o_end (k21 _ ?_)
     exact c_ret (rets [] [(vB r22)] [(vB r22)] h)
   · refine c_skip (k6 _ ?_)
     refine s_so fun N24 k24 w24 => ?_
     refine o_r4 [(40, (vL Form.c a1)), (41, (vL Form.c a2)), (42, (vL Rule.c a3)), (43, (.agg [(vL Node.c a4.fNodes), (vL Val.c a4.fRoots)]))] ?_
     refine bnd h fun r25 g26 h => ?_
     refine o_o (one_call (p_f32 g26)) ?_
     refine o_h9 [(9, (.ptr 3 0)), (10, (.ptr 4 0)), (11, (vI r25.2.2)), (39, (.tup [(.agg [(vL Node.c r25.1.fNodes), (vL Val.c r25.1.fRoots)]), (.agg [(vI r25.2.1.fNode), (vS r25.2.1.fCol)]), (vI r25.2.2)])), (45, (.agg [(vL Node.c r25.1.fNodes), (vL Val.c r25.1.fRoots)])), (46, (.agg [(vI r25.2.1.fNode), (vS r25.2.1.fCol)])), (47, (vI r25.2.2))] [(some (.box 26 [(vL Node.c a4.fNodes), (vL Val.c a4.fRoots)])), (some (.row 57 2 (List.map Node.c []))), (some (.row 59 2 (List.map Val.c []))), (some (.box 26 [(vL Node.c r25.1.fNodes), (vL Val.c r25.1.fRoots)])), (some (.box 64 [(vI r25.2.1.fNode), (vS r25.2.1.fCol)]))] ?_
     refine o_end (k24 _ ?_)
     refine s_seq fun N27 k27 w27 => ?_
     refine J1 (r := r) (fun (x34 : Bool) => ⟨(mkd .any 179 0 [(0, (vL Form.c a1)), (1, (vL Form.c a2)), (2, (vL Rule.c a3)), (7, (.ptr 0 0)), (9, (.ptr 3 0)), (10, (.ptr 4 0)), (11, (vI r25.2.2)), (58, (vB x34))]), [(some (.box 26 [(vL Node.c a4.fNodes), (vL Val.c a4.fRoots)])), none, none, (some (.box 26 [(vL Node.c r25.1.fNodes), (vL Val.c r25.1.fRoots)])), (some (.box 64 [(vI r25.2.1.fNode), (vS r25.2.1.fCol)]))]⟩) (f8_k28 r25 a4 n a2 a1 a3) ?_ ?_
     · intro x34 h
       rw [f8_k28.eq_1] at h
       refine i_c [58] h (fun h => ?_) (fun h => ?_)
       · refine J1 (r := r) (fun (x44 : Bool) => ⟨(mkd .any 179 0 [(8, (vB x44))]), []⟩) (f8_k36) ?_ ?_
         · intro x44 h
           rw [f8_k36.eq_1] at h
           exact c_ret (rets [] [(vB x44)] [(vB x44)] h)
         · intro N36 w36
           refine c_ops ?_
           refine bnd h fun r37 g38 h => ?_
           refine o_o (one_call (p_f15 g38)) ?_
           refine o_r1 [(60, (vB r37))] ?_
           refine i_o [59, 60] h (fun h => ?_) (fun h => ?_)
           · refine o_r4 [(61, (vI r25.2.2)), (62, (vB (r25.2.2 != 0))), (63, (vB (r25.2.2 != 0))), (64, (vB (r25.2.2 != 0)))] ?_
             refine i_o [62, 63, 64] h (fun h => ?_) (fun h => ?_)
             · refine o_r2 [(65, (.agg [(vI r25.2.1.fNode), (vS r25.2.1.fCol)])), (66, (.agg [(vI 0), (vS (ByteArray.mk #[]))]))] ?_
               refine o_g ?_
               refine o_o (one_sc (vs := [.agg #[.int .i64 r25.2.1.fNode, .string r25.2.1.fCol], .agg #[.int .i64 0, .string (ByteArray.mk #[])]]) (sc_eqs (r := Refusal.eqB r25.2.1 (Refusal.mk 0 (ByteArray.mk #[]))))) ?_
               refine o_r2 [(68, (vB (Refusal.eqB r25.2.1 (Refusal.mk 0 (ByteArray.mk #[]))))), (69, (vB (Refusal.eqB r25.2.1 (Refusal.mk 0 (ByteArray.mk #[])))))] ?_
               refine i_o [67, 68, 69] h (fun h => ?_) (fun h => ?_)
               · refine o_r2 [(70, (.ptr 3 0)), (71, (vL Node.c r25.1.fNodes))] ?_
                 refine o_g ?_
                 refine o_o (one_len (f := Node.c) (l := r25.1.fNodes)) ?_
                 refine o_r3 [(8, (vB ((len r25.1.fNodes) == 0))), (73, (vB ((len r25.1.fNodes) == 0))), (74, (vB ((len r25.1.fNodes) == 0)))] ?_
                 refine s_tm (mkd .any 179 0 [(0, (vL Form.c a1)), (1, (vL Form.c a2)), (2, (vL Rule.c a3)), (7, (.ptr 0 0)), (8, (vB ((len r25.1.fNodes) == 0))), (9, (.ptr 3 0)), (10, (.ptr 4 0)), (11, (vI r25.2.2)), (58, (vB true)), (59, (vB true)), (60, (vB true)), (61, (vI r25.2.2)), (62, (vB true)), (63, (vB true)), (64, (vB true)), (65, (.agg [(vI r25.2.1.fNode), (vS r25.2.1.fCol)])), (66, (.agg [(vI 0), (vS (ByteArray.mk #[]))])), (67, (vB true)), (68, (vB true)), (69, (vB true)), (70, (.ptr 3 0)), (71, (vL Node.c r25.1.fNodes)), (72, (vI (len r25.1.fNodes))), (73, (vB ((len r25.1.fNodes) == 0))), (74, (vB ((len r25.1.fNodes) == 0)))]) ?_
                 exact o_end (w36 _ _ (wkm [8] wh_nil) h)
               · refine o_r6 [(8, (vB false)), (70, (.val undef)), (71, (.val undef)), (72, (.val undef)), (73, (.val undef)), (74, (vB false))] ?_
                 exact o_end (w36 _ _ (wkm [8] wh_nil) h)
             · refine o_r11 [(8, (vB false)), (65, (.val undef)), (66, (.val undef)), (67, (.val undef)), (68, (vB false)), (69, (vB false)), (70, (.val undef)), (71, (.val undef)), (72, (.val undef)), (73, (.val undef)), (74, (vB false))] ?_
               exact o_end (w36 _ _ (wkm [8] wh_nil) h)
           · refine o_r15 [(8, (vB false)), (61, (.val undef)), (62, (.val undef)), (63, (vB false)), (64, (vB false)), (65, (.val undef)), (66, (.val undef)), (67, (.val undef)), (68, (vB false)), (69, (vB false)), (70, (.val undef)), (71, (.val undef)), (72, (.val undef)), (73, (.val undef)), (74, (vB false))] ?_
             exact o_end (w36 _ _ (wkm [8] wh_nil) h)
       · refine c_skip (k27 _ ?_)
         refine s_seq fun N45 k45 w45 => ?_
         refine s_so fun N46 k46 w46 => ?_
         refine o_r2 [(75, (vI r25.2.2)), (76, (vB (r25.2.2 == 10)))] ?_
         refine o_end (k46 _ ?_)
         refine i_c [76] h (fun h => ?_) (fun h => ?_)
         · refine J1 (r := r) (fun (x59 : Bool) => ⟨(mkd .any 179 0 [(8, (vB x59))]), []⟩) (f8_k48) ?_ ?_
           · intro x59 h
             rw [f8_k48.eq_1] at h
             exact c_ret (rets [] [(vB x59)] [(vB x59)] h)
           · intro N48 w48
             refine c_ops ?_
             refine bnd h fun r49 g50 h => ?_
             refine o_o (one_call (p_f15 g50)) ?_
             refine o_r1 [(78, (vB r49))] ?_
             refine i_o [77, 78] h (fun h => ?_) (fun h => ?_)
             · refine o_r5 [(79, (.ptr 4 0)), (80, (vI r25.2.1.fNode)), (81, (vB (decide (r25.2.1.fNode ≥ 0)))), (82, (vB (decide (r25.2.1.fNode ≥ 0)))), (83, (vB (decide (r25.2.1.fNode ≥ 0))))] ?_
               refine i_o [81, 82, 83] h (fun h => ?_) (fun h => ?_)
               · refine o_r4 [(84, (.ptr 4 0)), (85, (vI r25.2.1.fNode)), (86, (.ptr 0 0)), (87, (vL Node.c a4.fNodes))] ?_
                 refine o_g ?_
                 refine o_o (one_len (f := Node.c) (l := a4.fNodes)) ?_
                 refine o_r3 [(89, (vB (decide (r25.2.1.fNode < (len a4.fNodes))))), (90, (vB (decide (r25.2.1.fNode < (len a4.fNodes))))), (91, (vB (decide (r25.2.1.fNode < (len a4.fNodes)))))] ?_
                 refine i_o [89, 90, 91] h (fun h => ?_) (fun h => ?_)
                 · refine o_r2 [(92, (.ptr 4 1)), (93, (vS r25.2.1.fCol))] ?_
                   refine s_tm (mkd .any 179 0 [(0, (vL Form.c a1)), (1, (vL Form.c a2)), (2, (vL Rule.c a3)), (7, (.ptr 0 0)), (9, (.ptr 3 0)), (10, (.ptr 4 0)), (11, (vI r25.2.2)), (58, (vB false)), (75, (vI r25.2.2)), (76, (vB true)), (77, (vB true)), (78, (vB true)), (79, (.ptr 4 0)), (80, (vI r25.2.1.fNode)), (81, (vB true)), (82, (vB true)), (83, (vB true)), (84, (.ptr 4 0)), (85, (vI r25.2.1.fNode)), (86, (.ptr 0 0)), (87, (vL Node.c a4.fNodes)), (88, (vI (len a4.fNodes))), (89, (vB true)), (90, (vB true)), (91, (vB true)), (92, (.ptr 4 1)), (93, (vS r25.2.1.fCol))]) ?_
                   refine o_g ?_
                   refine o_o (one_sc (vs := [.string r25.2.1.fCol, .string (ByteArray.mk #[])]) (str_neq r25.2.1.fCol (ByteArray.mk #[]))) ?_
                   refine o_r2 [(95, (vB (!(sEqF r25.2.1.fCol (ByteArray.mk #[]))))), (96, (vB (!(sEqF r25.2.1.fCol (ByteArray.mk #[])))))] ?_
                   refine i_o [94, 95, 96] h (fun h => ?_) (fun h => ?_)
                   · refine o_r2 [(97, (.ptr 3 0)), (98, (vL Node.c r25.1.fNodes))] ?_
                     refine o_g ?_
                     refine o_o (one_len (f := Node.c) (l := r25.1.fNodes)) ?_
                     refine o_r2 [(100, (.ptr 3 1)), (101, (vL Val.c r25.1.fRoots))] ?_
                     refine o_g ?_
                     refine o_o (one_len (f := Val.c) (l := r25.1.fRoots)) ?_
                     refine o_r4 [(8, (vB ((wr .i64 ((len r25.1.fNodes) + (len r25.1.fRoots))) == 0))), (103, (vI (wr .i64 ((len r25.1.fNodes) + (len r25.1.fRoots))))), (104, (vB ((wr .i64 ((len r25.1.fNodes) + (len r25.1.fRoots))) == 0))), (105, (vB ((wr .i64 ((len r25.1.fNodes) + (len r25.1.fRoots))) == 0)))] ?_
                     exact o_end (w48 _ _ (wkm [8] wh_nil) h)
                   · refine o_r10 [(8, (vB false)), (97, (.val undef)), (98, (.val undef)), (99, (.val undef)), (100, (.val undef)), (101, (.val undef)), (102, (.val undef)), (103, (.val undef)), (104, (.val undef)), (105, (vB false))] ?_
                     exact o_end (w48 _ _ (wkm [8] wh_nil) h)
                 · refine o_r15 [(8, (vB false)), (92, (.val undef)), (93, (.val undef)), (94, (.val undef)), (95, (vB false)), (96, (vB false)), (97, (.val undef)), (98, (.val undef)), (99, (.val undef)), (100, (.val undef)), (101, (.val undef)), (102, (.val undef)), (103, (.val undef)), (104, (.val undef)), (105, (vB false))] ?_
                   refine s_tm (mkd .any 179 0 [(0, (vL Form.c a1)), (1, (vL Form.c a2)), (2, (vL Rule.c a3)), (7, (.ptr 0 0)), (8, (vB false)), (9, (.ptr 3 0)), (10, (.ptr 4 0)), (11, (vI r25.2.2)), (58, (vB false)), (75, (vI r25.2.2)), (76, (vB true)), (77, (vB true)), (78, (vB true)), (79, (.ptr 4 0)), (80, (vI r25.2.1.fNode)), (81, (vB true)), (82, (vB true)), (83, (vB true)), (84, (.ptr 4 0)), (85, (vI r25.2.1.fNode)), (86, (.ptr 0 0)), (87, (vL Node.c a4.fNodes)), (88, (vI (len a4.fNodes))), (89, (vB false)), (90, (vB false)), (91, (vB false)), (92, (.val undef)), (93, (.val undef)), (94, (.val undef)), (95, (vB false)), (96, (vB false)), (97, (.val undef)), (98, (.val undef)), (99, (.val undef)), (100, (.val undef)), (101, (.val undef)), (102, (.val undef)), (103, (.val undef)), (104, (.val undef)), (105, (vB false))]) ?_
                   exact o_end (w48 _ _ (wkm [8] wh_nil) h)
               · refine o_r16 [(84, (.val undef)), (85, (.val undef)), (86, (.val undef)), (87, (.val undef)), (88, (.val undef)), (89, (.val undef)), (90, (vB false)), (91, (vB false)), (92, (.val undef)), (93, (.val undef)), (94, (.val undef)), (95, (vB false)), (96, (vB false)), (97, (.val undef)), (98, (.val undef)), (99, (.val undef))] ?_
                 refine o_r7 [(8, (vB false)), (100, (.val undef)), (101, (.val undef)), (102, (.val undef)), (103, (.val undef)), (104, (.val undef)), (105, (vB false))] ?_
                 exact o_end (w48 _ _ (wkm [8] wh_nil) h)
             · refine o_r16 [(79, (.val undef)), (80, (.val undef)), (81, (.val undef)), (82, (vB false)), (83, (vB false)), (84, (.val undef)), (85, (.val undef)), (86, (.val undef)), (87, (.val undef)), (88, (.val undef)), (89, (.val undef)), (90, (vB false)), (91, (vB false)), (92, (.val undef)), (93, (.val undef)), (94, (.val undef))] ?_
               refine o_r12 [(8, (vB false)), (95, (vB false)), (96, (vB false)), (97, (.val undef)), (98, (.val undef)), (99, (.val undef)), (100, (.val undef)), (101, (.val undef)), (102, (.val undef)), (103, (.val undef)), (104, (.val undef)), (105, (vB false))] ?_
               exact o_end (w48 _ _ (wkm [8] wh_nil) h)
         · refine c_skip (k45 _ ?_)
           refine s_seq fun N60 k60 w60 => ?_
           refine J1 (r := r) (fun (x73 : Bool) => ⟨(mkd .any 179 0 [(0, (vL Form.c a1)), (1, (vL Form.c a2)), (2, (vL Rule.c a3)), (7, (.ptr 0 0)), (9, (.ptr 3 0)), (135, (vB x73))]), [(some (.box 26 [(vL Node.c a4.fNodes), (vL Val.c a4.fRoots)])), none, none, (some (.box 26 [(vL Node.c r25.1.fNodes), (vL Val.c r25.1.fRoots)]))]⟩) (f8_k61 n a4 a1 a2 a3 r25) ?_ ?_
           · intro x73 h
             rw [f8_k61.eq_1] at h
             refine i_c [135] h (fun h => ?_) (fun h => ?_)
             · refine s_so fun N75 k75 w75 => ?_
               refine o_r1 [(8, (vB false))] ?_
               refine o_end (k75 _ ?_)
               exact c_ret (rets [] [(vB false)] [(vB false)] h)
             · refine c_skip (k60 _ ?_)
               refine s_so fun N76 k76 w76 => ?_
               refine o_r1 [(137, (.agg [(vL Node.c a4.fNodes), (vL Val.c a4.fRoots)]))] ?_
               refine bnd h fun r77 g78 h => ?_
               refine o_o (one_call (p_f26 g78)) ?_
               refine o_h8 [(12, (.ptr 6 0)), (13, (vL cI r77.2.1)), (14, (vI r77.2.2)), (136, (.tup [(.agg [(vL Node.c r77.1.fNodes), (vL Val.c r77.1.fRoots)]), (vL cI r77.2.1), (vI r77.2.2)])), (139, (.agg [(vL Node.c r77.1.fNodes), (vL Val.c r77.1.fRoots)])), (140, (vL cI r77.2.1)), (141, (vI r77.2.2))] [(some (.box 26 [(vL Node.c a4.fNodes), (vL Val.c a4.fRoots)])), none, none, (some (.box 26 [(vL Node.c r25.1.fNodes), (vL Val.c r25.1.fRoots)])), (some (.row 57 2 (List.map Node.c []))), (some (.row 59 2 (List.map Val.c []))), (some (.box 26 [(vL Node.c r77.1.fNodes), (vL Val.c r77.1.fRoots)]))] ?_
               refine o_end (k76 _ ?_)
               refine s_seq fun N79 k79 w79 => ?_
               refine s_so fun N80 k80 w80 => ?_
               refine o_r2 [(142, (vI r77.2.2)), (143, (vB (r77.2.2 != 0)))] ?_
               refine o_end (k80 _ ?_)
               refine i_c [143] h (fun h => ?_) (fun h => ?_)
               · refine s_so fun N82 k82 w82 => ?_
                 refine o_r1 [(8, (vB false))] ?_
                 refine o_end (w82 _ ⟨(mkd .any 179 0 [(8, (vB false))]), []⟩ (wkm [8] wh_nil) ?_)
                 exact c_ret (rets [] [(vB false)] [(vB false)] h)
               · refine c_skip (k79 _ ?_)
                 refine s_seq fun N83 k83 w83 => ?_
                 refine s_so fun N84 k84 w84 => ?_
                 refine o_r2 [(144, (.ptr 6 0)), (145, (vL Node.c r77.1.fNodes))] ?_
                 refine o_o (one_len (f := Node.c) (l := r77.1.fNodes)) ?_
                 refine o_r2 [(147, (.ptr 0 0)), (148, (vL Node.c a4.fNodes))] ?_
                 refine o_o (one_len (f := Node.c) (l := a4.fNodes)) ?_
                 refine o_r1 [(150, (vB (decide ((len r77.1.fNodes) < (len a4.fNodes)))))] ?_
                 refine o_end (w84 _ ⟨(mkd .any 179 0 [(0, (vL Form.c a1)), (1, (vL Form.c a2)), (2, (vL Rule.c a3)), (9, (.ptr 3 0)), (12, (.ptr 6 0)), (150, (vB (decide ((len r77.1.fNodes) < (len a4.fNodes)))))]), [none, none, none, (some (.box 26 [(vL Node.c r25.1.fNodes), (vL Val.c r25.1.fRoots)])), none, none, (some (.box 26 [(vL Node.c r77.1.fNodes), (vL Val.c r77.1.fRoots)]))]⟩ (wkm [0, 1, 2, 9, 12, 150] (wh_drop (wh_none (wh_none (whk (wh_drop (wh_drop (whk wh_nil)))))))) ?_)
                 refine i_c [150] h (fun h => ?_) (fun h => ?_)
                 · refine s_so fun N88 k88 w88 => ?_
                   refine bnd h fun r89 g90 h => ?_
                   refine o_o (one_call (p_f15 g90)) ?_
                   refine o_r1 [(8, (vB r89))] ?_
                   refine o_end (k88 _ ?_)
                   exact c_ret (rets [] [(vB r89)] [(vB r89)] h)
                 · refine c_skip (k83 _ ?_)
                   refine s_so fun N91 k91 w91 => ?_
                   refine o_r4 [(153, (vL Form.c a1)), (154, (vL Form.c a2)), (155, (vL Rule.c a3)), (156, (.agg [(vL Node.c r77.1.fNodes), (vL Val.c r77.1.fRoots)]))] ?_
                   refine bnd h fun r92 g93 h => ?_
                   refine o_o (one_call (p_f32 g93)) ?_
                   refine o_h9 [(15, (.ptr 9 0)), (16, (.ptr 10 0)), (17, (vI r92.2.2)), (152, (.tup [(.agg [(vL Node.c r92.1.fNodes), (vL Val.c r92.1.fRoots)]), (.agg [(vI r92.2.1.fNode), (vS r92.2.1.fCol)]), (vI r92.2.2)])), (158, (.agg [(vL Node.c r92.1.fNodes), (vL Val.c r92.1.fRoots)])), (159, (.agg [(vI r92.2.1.fNode), (vS r92.2.1.fCol)])), (160, (vI r92.2.2))] [none, none, none, (some (.box 26 [(vL Node.c r25.1.fNodes), (vL Val.c r25.1.fRoots)])), none, none, (some (.box 26 [(vL Node.c r77.1.fNodes), (vL Val.c r77.1.fRoots)])), (some (.row 57 2 (List.map Node.c []))), (some (.row 59 2 (List.map Val.c []))), (some (.box 26 [(vL Node.c r92.1.fNodes), (vL Val.c r92.1.fRoots)])), (some (.box 64 [(vI r92.2.1.fNode), (vS r92.2.1.fCol)]))] ?_
                   refine o_end (k91 _ ?_)
                   refine s_so fun N94 k94 w94 => ?_
                   refine o_r2 [(162, (.agg [(vL Node.c r25.1.fNodes), (vL Val.c r25.1.fRoots)])), (163, (.agg [(vL Node.c r92.1.fNodes), (vL Val.c r92.1.fRoots)]))] ?_
                   refine bnd h fun r95 g96 h => ?_
                   refine o_o (one_call (p_f28 g96)) ?_
                   refine o_r5 [(18, (vB r95.1)), (19, (vI r95.2)), (161, (.tup [(vB r95.1), (vI r95.2)])), (165, (vB r95.1)), (166, (vI r95.2))] ?_
                   refine o_end (w94 _ ⟨(mkd .any 179 0 [(17, (vI r92.2.2)), (18, (vB r95.1)), (19, (vI r95.2))]), []⟩ (wkm [17, 18, 19] wh_nil) ?_)
                   refine J1 (r := r) (fun (x103 : Bool) => ⟨(mkd .any 179 0 [(8, (vB x103))]), []⟩) (f8_k97) ?_ ?_
                   · intro x103 h
                     rw [f8_k97.eq_1] at h
                     exact c_ret (rets [] [(vB x103)] [(vB x103)] h)
                   · intro N97 w97
                     refine c_ops ?_
                     refine bnd h fun r98 g99 h => ?_
                     refine o_o (one_call (p_f15 g99)) ?_
                     refine o_r1 [(168, (vB r98))] ?_
                     refine i_o [167, 168] h (fun h => ?_) (fun h => ?_)
                     · refine o_r4 [(169, (vI r92.2.2)), (170, (vB (r92.2.2 == 0))), (171, (vB (r92.2.2 == 0))), (172, (vB (r92.2.2 == 0)))] ?_
                       refine i_o [170, 171, 172] h (fun h => ?_) (fun h => ?_)
                       · refine o_r4 [(173, (vI r95.2)), (174, (vB (r95.2 == 0))), (175, (vB (r95.2 == 0))), (176, (vB (r95.2 == 0)))] ?_
                         refine i_o [174, 175, 176] h (fun h => ?_) (fun h => ?_)
                         · refine o_r3 [(8, (vB r95.1)), (177, (vB r95.1)), (178, (vB r95.1))] ?_
                           exact o_end (w97 _ _ (wkm [8] wh_nil) h)
                         · refine o_r3 [(8, (vB false)), (177, (.val undef)), (178, (vB false))] ?_
                           exact o_end (w97 _ _ (wkm [8] wh_nil) h)
                       · refine o_r7 [(8, (vB false)), (173, (.val undef)), (174, (.val undef)), (175, (vB false)), (176, (vB false)), (177, (.val undef)), (178, (vB false))] ?_
                         exact o_end (w97 _ _ (wkm [8] wh_nil) h)
                     · refine o_r11 [(8, (vB false)), (169, (.val undef)), (170, (.val undef)), (171, (vB false)), (172, (vB false)), (173, (.val undef)), (174, (.val undef)), (175, (vB false)), (176, (vB false)), (177, (.val undef)), (178, (vB false))] ?_
                       exact o_end (w97 _ _ (wkm [8] wh_nil) h)
           · intro N61 w61
             refine c_ops ?_
             refine o_r3 [(106, (vI r25.2.2)), (107, (vB (r25.2.2 != 0))), (108, (vB (r25.2.2 != 0)))] ?_
             refine i_o [107, 108] h (fun h => ?_) (fun h => ?_)
             · refine o_r16 [(109, (.val undef)), (110, (.val undef)), (111, (.val undef)), (112, (.val undef)), (113, (vB true)), (114, (vB true)), (115, (.val undef)), (116, (.val undef)), (117, (.val undef)), (118, (.val undef)), (119, (.val undef)), (120, (.val undef)), (121, (.val undef)), (122, (vB true)), (123, (vB true)), (124, (.val undef))] ?_
               refine o_r11 [(125, (.val undef)), (126, (.val undef)), (127, (.val undef)), (128, (.val undef)), (129, (.val undef)), (130, (vB true)), (131, (vB true)), (132, (.val undef)), (133, (.val undef)), (134, (.val undef)), (135, (vB true))] ?_
               exact o_end (w61 _ _ (wkm [0, 1, 2, 7, 9, 135] (whk (wh_none (wh_none (whk wh_nil))))) h)
             · refine o_r2 [(109, (vL Form.c a2)), (110, (.agg [(vL Node.c r25.1.fNodes), (vL Val.c r25.1.fRoots)]))] ?_
               refine bnd h fun r63 g64 h => ?_
               refine o_g ?_
               refine o_o (one_call (p_f18 g64)) ?_
               refine o_r3 [(112, (vB (r63 != 0))), (113, (vB (r63 != 0))), (114, (vB (r63 != 0)))] ?_
               refine i_o [112, 113, 114] h (fun h => ?_) (fun h => ?_)
               · refine o_r16 [(115, (.val undef)), (116, (.val undef)), (117, (.val undef)), (118, (.val undef)), (119, (.val undef)), (120, (.val undef)), (121, (.val undef)), (122, (vB true)), (123, (vB true)), (124, (.val undef)), (125, (.val undef)), (126, (.val undef)), (127, (.val undef)), (128, (.val undef)), (129, (.val undef)), (130, (vB true))] ?_
                 refine o_r5 [(131, (vB true)), (132, (.val undef)), (133, (.val undef)), (134, (.val undef)), (135, (vB true))] ?_
                 exact o_end (w61 _ _ (wkm [0, 1, 2, 7, 9, 135] (whk (wh_none (wh_none (whk wh_nil))))) h)
               · refine o_r2 [(115, (.ptr 3 0)), (116, (vL Node.c r25.1.fNodes))] ?_
                 refine o_g ?_
                 refine o_o (one_len (f := Node.c) (l := r25.1.fNodes)) ?_
                 refine o_r2 [(118, (.ptr 0 0)), (119, (vL Node.c a4.fNodes))] ?_
                 refine s_tm (mkd .any 179 0 [(0, (vL Form.c a1)), (1, (vL Form.c a2)), (2, (vL Rule.c a3)), (7, (.ptr 0 0)), (9, (.ptr 3 0)), (10, (.ptr 4 0)), (11, (vI r25.2.2)), (58, (vB false)), (75, (vI r25.2.2)), (76, (vB false)), (106, (vI r25.2.2)), (107, (vB false)), (108, (vB false)), (109, (vL Form.c a2)), (110, (.agg [(vL Node.c r25.1.fNodes), (vL Val.c r25.1.fRoots)])), (111, (vI r63)), (112, (vB false)), (113, (vB false)), (114, (vB false)), (115, (.ptr 3 0)), (116, (vL Node.c r25.1.fNodes)), (117, (vI (len r25.1.fNodes))), (118, (.ptr 0 0)), (119, (vL Node.c a4.fNodes))]) ?_
                 refine o_g ?_
                 refine o_o (one_len (f := Node.c) (l := a4.fNodes)) ?_
                 refine o_r3 [(121, (vB ((len r25.1.fNodes) != (len a4.fNodes)))), (122, (vB ((len r25.1.fNodes) != (len a4.fNodes)))), (123, (vB ((len r25.1.fNodes) != (len a4.fNodes))))] ?_
                 refine i_o [121, 122, 123] h (fun h => ?_) (fun h => ?_)
                 · refine o_r12 [(124, (.val undef)), (125, (.val undef)), (126, (.val undef)), (127, (.val undef)), (128, (.val undef)), (129, (.val undef)), (130, (vB true)), (131, (vB true)), (132, (.val undef)), (133, (.val undef)), (134, (.val undef)), (135, (vB true))] ?_
                   exact o_end (w61 _ _ (wkm [0, 1, 2, 7, 9, 135] (whk (wh_none (wh_none (whk wh_nil))))) h)
                 · refine o_r4 [(124, (.ptr 3 1)), (125, (vL Val.c r25.1.fRoots)), (126, (.ptr 0 1)), (127, (vL Val.c a4.fRoots))] ?_
                   refine bnd h fun r69 g70 h => ?_
                   refine o_g ?_
                   refine o_o (one_call (p_f34 g70)) ?_
                   refine o_r3 [(129, (vB (!r69))), (130, (vB (!r69))), (131, (vB (!r69)))] ?_
                   refine i_o [129, 130, 131] h (fun h => ?_) (fun h => ?_)
                   · refine o_r4 [(132, (.val undef)), (133, (.val undef)), (134, (.val undef)), (135, (vB true))] ?_
                     exact o_end (w61 _ _ (wkm [0, 1, 2, 7, 9, 135] (whk (wh_none (wh_none (whk wh_nil))))) h)
                   · refine o_r2 [(132, (.agg [(vI r25.2.1.fNode), (vS r25.2.1.fCol)])), (133, (.agg [(vI 0), (vS (ByteArray.mk #[]))]))] ?_
                     refine o_g ?_
                     refine o_o (one_sc (vs := [.agg #[.int .i64 r25.2.1.fNode, .string r25.2.1.fCol], .agg #[.int .i64 0, .string (ByteArray.mk #[])]]) (sc_nes (r := Refusal.eqB r25.2.1 (Refusal.mk 0 (ByteArray.mk #[]))))) ?_
                     refine o_r1 [(135, (vB (!(Refusal.eqB r25.2.1 (Refusal.mk 0 (ByteArray.mk #[]))))))] ?_
                     exact o_end (w61 _ _ (wkm [0, 1, 2, 7, 9, 135] (whk (wh_none (wh_none (whk wh_nil))))) h)
     · intro N28 w28
       refine c_ops ?_
       refine o_r3 [(48, (vL Form.c a1)), (49, (vL Form.c a2)), (50, (vL Rule.c a3))] ?_
       refine bnd h fun r29 g30 h => ?_
       refine o_o (one_call (p_f33 g30)) ?_
       refine o_r2 [(52, (vB (r29 != 0))), (53, (vB (r29 != 0)))] ?_
       refine i_o [52, 53] h (fun h => ?_) (fun h => ?_)
       · refine o_r5 [(54, (.val undef)), (55, (.val undef)), (56, (.val undef)), (57, (.val undef)), (58, (vB true))] ?_
         exact o_end (w28 _ _ (wkm [0, 1, 2, 7, 9, 10, 11, 58] (whk (wh_drop (wh_drop (whk (whk wh_nil)))))) h)
       · refine o_r2 [(54, (vL Form.c a1)), (55, (.agg [(vL Node.c a4.fNodes), (vL Val.c a4.fRoots)]))] ?_
         refine bnd h fun r32 g33 h => ?_
         refine o_g ?_
         refine o_o (one_call (p_f18 g33)) ?_
         refine o_r2 [(57, (vB (r32 != 0))), (58, (vB (r32 != 0)))] ?_
         exact o_end (w28 _ _ (wkm [0, 1, 2, 7, 9, 10, 11, 58] (whk (wh_drop (wh_drop (whk (whk wh_nil)))))) h)
 · intro N7 w7
   refine c_ops ?_
   refine o_r1 [(20, (vL Form.c a1))] ?_
   refine bnd h fun r8 g9 h => ?_
   refine o_o (one_call (p_f13 g9)) ?_
   refine o_r2 [(22, (vB (!r8))), (23, (vB (!r8)))] ?_
   refine i_o [22, 23] h (fun h => ?_) (fun h => ?_)
   · refine o_r14 [(24, (.val undef)), (25, (.val undef)), (26, (.val undef)), (27, (vB true)), (28, (vB true)), (29, (.val undef)), (30, (.val undef)), (31, (.val undef)), (32, (vB true)), (33, (vB true)), (34, (.val undef)), (35, (.val undef)), (36, (.val undef)), (37, (vB true))] ?_
     exact o_end (w7 _ _ (wkm [0, 1, 2, 7, 37] (whk wh_nil)) h)
   · refine o_r1 [(24, (vL Form.c a2))] ?_
     refine bnd h fun r11 g12 h => ?_
     refine o_g ?_
     refine o_o (one_call (p_f13 g12)) ?_
     refine o_r3 [(26, (vB (!r11))), (27, (vB (!r11))), (28, (vB (!r11)))] ?_
     refine i_o [26, 27, 28] h (fun h => ?_) (fun h => ?_)
     · refine o_r9 [(29, (.val undef)), (30, (.val undef)), (31, (.val undef)), (32, (vB true)), (33, (vB true)), (34, (.val undef)), (35, (.val undef)), (36, (.val undef)), (37, (vB true))] ?_
       exact o_end (w7 _ _ (wkm [0, 1, 2, 7, 37] (whk wh_nil)) h)
     · refine o_r1 [(29, (vL Rule.c a3))] ?_
       refine bnd h fun r14 g15 h => ?_
       refine o_g ?_
       refine o_o (one_call (p_f31 g15)) ?_
       refine o_r3 [(31, (vB (!r14))), (32, (vB (!r14))), (33, (vB (!r14)))] ?_
       refine s_tm (mkd (.val undef) 179 0 [(0, (vL Form.c a1)), (1, (vL Form.c a2)), (2, (vL Rule.c a3)), (3, (.agg [(vL Node.c a4.fNodes), (vL Val.c a4.fRoots)])), (7, (.ptr 0 0)), (8, (vB false)), (20, (vL Form.c a1)), (21, (vB r8)), (22, (vB false)), (23, (vB false)), (24, (vL Form.c a2)), (25, (vB r11)), (26, (vB false)), (27, (vB false)), (28, (vB false)), (29, (vL Rule.c a3)), (30, (vB r14)), (31, (vB (!r14))), (32, (vB (!r14))), (33, (vB (!r14)))]) ?_
       refine i_o [31, 32, 33] h (fun h => ?_) (fun h => ?_)
       · refine o_r4 [(34, (.val undef)), (35, (.val undef)), (36, (.val undef)), (37, (vB true))] ?_
         exact o_end (w7 _ _ (wkm [0, 1, 2, 7, 37] (whk wh_nil)) h)
       · refine o_r1 [(34, (.agg [(vL Node.c a4.fNodes), (vL Val.c a4.fRoots)]))] ?_
         refine bnd h fun r17 g18 h => ?_
         refine o_g ?_
         refine o_o (one_call (p_f14 g18)) ?_
         refine o_r2 [(36, (vB (!r17))), (37, (vB (!r17)))] ?_
         exact o_end (w7 _ _ (wkm [0, 1, 2, 7, 37] (whk wh_nil)) h)
end Go.Proofs
end
section
set_option linter.unusedVariables false
namespace Go.Proofs
open Go.Vm
theorem cs {α : Type} {c : Bool} {x y : α} : (bif c then some x else some y) = some (bif c then x else y) := by cases c <;> rfl
def ruleP (s : ByteArray) (r : Rule) : Bool := sEqF r.fClass s
def hasRule (l : List Rule) (s : ByteArray) : Bool := l.any (ruleP s)
def ruleAt (l : List Rule) (s : ByteArray) : Rule := (l.find? (ruleP s)).getD ⟨noS, noS, []⟩
section
variable {n : Nat} {l : List Rule} {s : ByteArray}
theorem f117_eq (hn : l.length < n) (hl : l.length < 4611686018427387904) : f117 n l s = some (ixOf (ruleP s) l 0) := by
  unfold f117
  have := scan0 l f117_k4 (fun x y acc => bif sEqF y.fClass s then some x else acc) (f117_l8 l n s f117_k4) (fun m x => rfl) hl l.length 0 n (by omega) hn
  exact this.trans (go0_ix (ruleP s) id l 0)
theorem f78_eq (hn : l.length < n) (hl : l.length < 4611686018427387904) : f78 n l s = some (ruleAt l s, hasRule l s) := by
  unfold f78 f81
  rw [f117_eq hn hl]
  simp only [Option.bind_some]
  rw [ix_neg]
  unfold ruleAt hasRule
  rcases ix_find (ruleP s) l 0 with ⟨h1, h2, h3⟩ | ⟨j, x, h1, h2, h3, h4, h5⟩
  · rw [h1, h2]; rfl
  · rw [h1, h2, h3, Nat.zero_add, gi_nat, h4]; rfl
end
def leadsB (l : List Rule) (a b : ByteArray) : Bool := bif sEqF b ANY then true else bif hasRule l a then sEqF (ruleAt l a).fTo b else false
def fitsB (l : List Rule) (g : Give) (a b : Col) : Bool :=
  bif g.fHow == 1 then (bif a.fKind == b.fKind then (bif a.fKind != 3 then true else leadsB l a.fClass b.fClass) else false) else
  bif g.fHow == 2 then (bif a.fKind == 2 then b.fKind == 1 else false) else
  bif g.fHow == 3 then (bif a.fKind == 1 then b.fKind == 2 else false) else
  bif g.fHow == 4 then (bif a.fKind == 1 then b.fKind == 1 else false) else
  bif g.fHow == 5 then (bif a.fKind == 3 then (bif b.fKind == 3 then leadsB l a.fClass b.fClass else false) else false) else
  bif g.fHow == 6 then (bif b.fKind == 1 then true else bif b.fKind == 2 then inR g.fN 0 1 else false) else b.fKind == 3
section
variable {n : Nat} {l : List Rule}
theorem f142_eq {a b : ByteArray} (hn : l.length < n) (hl : l.length < 4611686018427387904) : f142 n l a b = some (leadsB l a b) := by
  unfold f142 leadsB f142_k13
  rw [f78_eq hn hl]
  simp only [Option.bind_some, cs]
  rfl
theorem f141_eq {g : Give} {a b : Col} (hn : l.length < n) (hl : l.length < 4611686018427387904) : f141 n l g a b = some (fitsB l g a b) := by
  unfold f141 fitsB f141_k11 f141_k19 f141_k24 f141_k29 f141_k34 f141_k42
  rw [f142_eq hn hl, f86_eq]
  simp only [Option.bind_some, cs]
end
def noC : Col := ⟨noS, 0, noS⟩
def colAt (l : List Col) (s : ByteArray) : Col := (l.find? fun c => sEqF c.fName s).getD noC
def mostB (g : Give) : Int := bif g.fHow == 4 then 1099511627776 else bif g.fHow == 6 then 1099511627776 else 0
def restBad (g : Give) (to : Col) : Bool := bif !inR g.fN (-mostB g) (mostB g) then true else bif g.fHow == 6 then (bif to.fKind == 2 then !inR g.fN 0 1 else false) else false
def argBad (g : Give) (to : Col) : Bool := bif !inR g.fHow 1 7 then true else bif !inR g.fHow 1 5 then (bif !sEqF g.fFrom noS then true else restBad g to) else restBad g to
def srcOf (cols : List Col) (g : Give) : Col := bif inR g.fHow 1 5 then colAt cols g.fFrom else noC
def giveB (l : List Rule) (g : Give) (cols : List Col) (to : Col) : Int :=
  bif inR g.fHow 1 5 && decide (colIx cols g.fFrom < 0) then 4 else bif argBad g to then 1 else bif fitsB l g (srcOf cols g) to then 0 else 8
section
variable {n : Nat} {l : List Rule}
theorem colAt_gi {cols : List Col} {s : ByteArray} (h : ¬ colIx cols s < 0) : gi cols (colIx cols s) = some (colAt cols s) ∧ colAt cols s ∈ cols ∧ sEqF (colAt cols s).fName s = true := by
  unfold colIx at h ⊢
  obtain ⟨x, h1, h2, h3, h4⟩ := ix_gi (p := fun x : Col => sEqF x.fName s) (l := cols) (by omega)
  have e : colAt cols s = x := by unfold colAt; rw [h1]; rfl
  rw [e]
  exact ⟨h2, h3, h4⟩
theorem f116_eq {g : Give} {cols : List Col} {to : Col} (hn : l.length < n) (hc : cols.length < n) (hn2 : n < 4611686018427387904) : f116 n l g cols to = some (giveB l g cols to) := by
  have hl : l.length < 4611686018427387904 := by omega
  unfold f116
  rw [f95_eq hc (by omega), f86_eq]
  simp only [Option.bind_some]
  have k27 : ∀ (x15 : Bool) (b : Bool), (x15 = inR g.fHow 1 5) → (x15 = true → ¬ colIx cols g.fFrom < 0) → f116_k27 x15 cols (colIx cols g.fFrom) n l g to b = some (bif b then 1 else bif fitsB l g (srcOf cols g) to then 0 else 8) := fun x15 b hx hi => by
    unfold f116_k27
    cases b with
    | true => rfl
    | false =>
      simp only [cond_false]
      unfold srcOf
      rw [← hx]
      cases x15 with
      | true =>
        simp only [cond_true]
        rw [(colAt_gi (hi rfl)).1]
        simp only [Option.bind_some, f116_k52]
        rw [f141_eq hn hl]
        simp only [Option.bind_some, f50_eq]
      | false =>
        simp only [cond_false, f116_k52]
        rw [f141_eq hn hl]
        simp only [Option.bind_some, f50_eq]
        rfl
  have k20 : ∀ (x15 : Bool), (x15 = inR g.fHow 1 5) → (x15 = true → ¬ colIx cols g.fFrom < 0) → f116_k20 n g x15 to cols (colIx cols g.fFrom) l (mostB g) = some (bif argBad g to then 1 else bif fitsB l g (srcOf cols g) to then 0 else 8) := fun x15 hx hi => by
    have hw : wr .i64 (0 - mostB g) = -mostB g := by
      unfold mostB
      cases g.fHow == 4 <;> cases g.fHow == 6 <;> decide
    unfold f116_k20
    rw [hw]
    simp only [f86_eq, Option.bind_some, k27 x15 _ hx hi]
    unfold argBad restBad
    rw [← hx, show noS = ByteArray.mk #[] from rfl]
    cases inR g.fHow 1 7 <;> cases x15 <;> cases sEqF g.fFrom (ByteArray.mk #[]) <;> (try rfl) <;> cases inR g.fN (-mostB g) (mostB g) <;> cases g.fHow == 6 <;> cases to.fKind == 2 <;> rfl
  have k13 : ∀ (x15 : Bool), (x15 = inR g.fHow 1 5) → (x15 = true → ¬ colIx cols g.fFrom < 0) → f116_k13 g n to cols (colIx cols g.fFrom) l x15 false = some (bif argBad g to then 1 else bif fitsB l g (srcOf cols g) to then 0 else 8) := fun x15 hx hi => by
    rw [← k20 x15 hx hi]
    unfold f116_k13 f116_k21 mostB
    cases g.fHow == 4 <;> cases g.fHow == 6 <;> rfl
  unfold giveB
  cases ha : inR g.fHow 1 5 with
  | true =>
    simp only [cond_true, Bool.true_and]
    cases hi : decide (colIx cols g.fFrom < 0) with
    | true => rfl
    | false =>
      have := of_decide_eq_false hi
      exact k13 true ha.symm (fun _ => this)
  | false => exact k13 false ha.symm (fun h => by cases h)
end
end Go.Proofs
end
section
set_option linter.unusedVariables false
namespace Go.Proofs
open Go.Vm
def NoAny (l : List Rule) : Prop := ∀ r ∈ l, sEqF r.fClass ANY = false
structure ColOk (to : Col) : Prop where
  kd : inR to.fKind 1 3 = true
  cl : (to.fKind == 3) = true → sEqF to.fClass ANY = false → sEqF noS to.fClass = false
section
variable {n : Nat} {l : List Rule} {s : ByteArray}
theorem hasRule_any {a : ByteArray} (hna : NoAny l) (h : sEqF a ANY = true) : hasRule l a = false := by
  have := sEqF_eq h
  subst this
  unfold hasRule
  rw [List.any_eq_false]
  intro r hr
  have := hna r hr
  unfold ruleP
  rw [this]; simp
def numdB (g : Give) (to : Col) : Bool :=
  bif g.fHow == 4 then inR g.fN (-1099511627776) 1099511627776 else
  bif g.fHow == 6 then (bif to.fKind == 2 then (bif sEqF g.fFrom noS then inR g.fN 0 1 else false) else bif sEqF g.fFrom noS then inR g.fN (-1099511627776) 1099511627776 else false) else
  bif g.fHow == 7 then (bif sEqF g.fFrom noS then g.fN == 0 else false) else g.fN == 0
theorem inR0 (x : Int) : inR x 0 0 = (x == 0) := by
  unfold inR
  rw [Bool.eq_iff_iff]
  simp only [Bool.and_eq_true, decide_eq_true_eq, beq_iff_eq]
  omega
theorem argBad_eq (g : Give) (to : Col) : argBad g to = bif !inR g.fHow 1 7 then true else !numdB g to := by
  cases h7 : inR g.fHow 1 7 with
  | false => unfold argBad; rw [h7]; rfl
  | true =>
    have hr : 1 ≤ g.fHow ∧ g.fHow ≤ 7 := by unfold inR at h7; simpa using h7
    have sub : inR g.fN 0 1 = true → inR g.fN (-1099511627776) 1099511627776 = true := fun h => by
      unfold inR at h ⊢
      simp only [Bool.and_eq_true, decide_eq_true_eq] at h ⊢
      omega
    have cases7 : g.fHow = 1 ∨ g.fHow = 2 ∨ g.fHow = 3 ∨ g.fHow = 4 ∨ g.fHow = 5 ∨ g.fHow = 6 ∨ g.fHow = 7 := by omega
    unfold argBad restBad mostB numdB
    rw [h7]
    rcases cases7 with h | h | h | h | h | h | h <;> rw [h]
    · show (bif !inR g.fN 0 0 then true else false) = !(g.fN == 0)
      rw [inR0]; cases (g.fN == 0) <;> rfl
    · show (bif !inR g.fN 0 0 then true else false) = !(g.fN == 0)
      rw [inR0]; cases (g.fN == 0) <;> rfl
    · show (bif !inR g.fN 0 0 then true else false) = !(g.fN == 0)
      rw [inR0]; cases (g.fN == 0) <;> rfl
    · show (bif !inR g.fN (-1099511627776) 1099511627776 then true else false) = !inR g.fN (-1099511627776) 1099511627776
      cases inR g.fN (-1099511627776) 1099511627776 <;> rfl
    · show (bif !inR g.fN 0 0 then true else false) = !(g.fN == 0)
      rw [inR0]; cases (g.fN == 0) <;> rfl
    · show (bif !sEqF g.fFrom noS then true else bif !inR g.fN (-1099511627776) 1099511627776 then true else bif to.fKind == 2 then !inR g.fN 0 1 else false) = !(bif to.fKind == 2 then (bif sEqF g.fFrom noS then inR g.fN 0 1 else false) else bif sEqF g.fFrom noS then inR g.fN (-1099511627776) 1099511627776 else false)
      revert sub
      cases sEqF g.fFrom noS <;> cases inR g.fN (-1099511627776) 1099511627776 <;> cases to.fKind == 2 <;> cases inR g.fN 0 1 <;> intro sub <;> first | rfl | exact nomatch (sub rfl)
    · show (bif !sEqF g.fFrom noS then true else bif !inR g.fN 0 0 then true else false) = !(bif sEqF g.fFrom noS then g.fN == 0 else false)
      rw [inR0]
      cases sEqF g.fFrom noS <;> cases (g.fN == 0) <;> rfl
end
end Go.Proofs
end
section
set_option linter.unusedVariables false
namespace Go.Proofs
open Go.Vm
def fst0 (E : Nat → Int) : Nat → Nat → Int
  | 0, _ => 0
  | d + 1, k => bif E k == 0 then fst0 E d (k + 1) else E k
theorem fst0_zero {E : Nat → Int} : ∀ (d k : Nat), fst0 E d k = 0 → ∀ j, k ≤ j → j < k + d → E j = 0
  | 0, k, h => fun j h1 h2 => by omega
  | d + 1, k, h => by
    unfold fst0 at h
    cases he : E k == 0 with
    | false =>
      rw [he] at h
      have : E k = 0 := h
      rw [this] at he; cases he
    | true =>
      rw [he] at h
      intro j h1 h2
      by_cases hj : j = k
      · subst hj; exact eq_of_beq he
      · exact fst0_zero d (k + 1) h j (by omega) (by omega)
theorem goN_fst {E : Nat → Int} (K : Option Int) : ∀ (d k : Nat), goN (fun k acc => bif E k == 0 then acc else some (E k)) K d k = bif fst0 E d k == 0 then K else some (fst0 E d k)
  | 0, k => rfl
  | d + 1, k => by
    show (bif E k == 0 then goN _ K d (k + 1) else some (E k)) = _
    rw [goN_fst K d (k + 1), show fst0 E (d + 1) k = bif E k == 0 then fst0 E d (k + 1) else E k from rfl]
    cases he : E k == 0 with
    | true => rfl
    | false => simp only [cond_false, he]
theorem scanF (N : Nat) (K : Option Int) (E : Nat → Int) (L : Nat → Int → Option Int) (hL : ∀ m (k : Nat), k < N → L (m + 1) k = bif E k == 0 then L m (wr .i64 (k + 1)) else some (E k)) (hK : ∀ m, L (m + 1) N = K) (hl : N < 4611686018427387904) {n : Nat} (hn : N < n) :
    L n 0 = bif fst0 E N 0 == 0 then K else some (fst0 E N 0) :=
  (scanN N K (fun k acc => bif E k == 0 then acc else some (E k)) L hL hK hl N 0 n (by omega) hn).trans (goN_fst K N 0)
def formAt (l : List Form) (s : ByteArray) : Form := (l.find? fun x => sEqF x.fName s).getD ⟨noS, []⟩
def E1 (A B : List Form) (L : List Rule) (k : Nat) : Int := match L[k]? with
  | none => 0
  | some r => bif decide (formIx A r.fClass < 0) then 4 else bif decide (formIx B r.fTo < 0) then 4 else bif hasRule (L.take k) r.fClass then 6 else 0
def E2 (A : List Form) (L : List Rule) (k : Nat) : Int := match A[k]? with
  | none => 0
  | some f => bif hasRule L f.fName then 0 else 5
def E4 (L : List Rule) (r : Rule) (f t : Form) (k : Nat) : Int := match r.fGives[k]?, t.fCols[k]? with
  | some g, some c => giveB L g f.fCols c
  | _, _ => 0
def E3 (A B : List Form) (L : List Rule) (k : Nat) : Int := match L[k]? with
  | none => 0
  | some r => bif r.fGives.length == (formAt B r.fTo).fCols.length then fst0 (E4 L r (formAt A r.fClass) (formAt B r.fTo)) r.fGives.length 0 else 2
def rulesE (A B : List Form) (L : List Rule) : Int :=
  bif decide (len L > 24) then 3 else bif fst0 (E1 A B L) L.length 0 == 0 then (bif fst0 (E2 A L) A.length 0 == 0 then fst0 (E3 A B L) L.length 0 else fst0 (E2 A L) A.length 0) else fst0 (E1 A B L) L.length 0
theorem formAt_gi {l : List Form} {s : ByteArray} (h : ¬ formIx l s < 0) : gi l (formIx l s) = some (formAt l s) ∧ formAt l s ∈ l ∧ sEqF (formAt l s).fName s = true := by
  unfold formIx at h ⊢
  obtain ⟨x, h1, h2, h3, h4⟩ := ix_gi (p := fun x : Form => sEqF x.fName s) (l := l) (by omega)
  have e : formAt l s = x := by unfold formAt; rw [h1]; rfl
  rw [e]
  exact ⟨h2, h3, h4⟩
theorem E1_zero {A B : List Form} {L : List Rule} (h : fst0 (E1 A B L) L.length 0 = 0) {k : Nat} (hk : k < L.length) :
    ¬ formIx A L[k].fClass < 0 ∧ ¬ formIx B L[k].fTo < 0 ∧ hasRule (L.take k) L[k].fClass = false := by
  have := fst0_zero L.length 0 h k (Nat.zero_le _) (by omega)
  unfold E1 at this
  rw [List.getElem?_eq_getElem hk] at this
  have e3 : ∀ a b c : Bool, (bif a then (4 : Int) else bif b then 4 else bif c then 6 else 0) = 0 → a = false ∧ b = false ∧ c = false := by decide
  obtain ⟨h1, h2, h3⟩ := e3 _ _ _ this
  exact ⟨of_decide_eq_false h1, of_decide_eq_false h2, h3⟩
theorem ltL {α : Type} (l : List α) (k : Nat) (hk : k < l.length) : decide ((k : Int) < len l) = true := by simp [len]; omega
theorem geL {α : Type} (l : List α) : decide ((l.length : Int) < len l) = false := by simp [len]
theorem bne_len {α β : Type} (a : List α) (b : List β) : (len a != len b) = !(a.length == b.length) := by
  show (!(((a.length : Nat) : Int) == ((b.length : Nat) : Int))) = _
  congr 1
  rw [Bool.eq_iff_iff]
  simp only [beq_iff_eq]
  omega
structure RuleSz (n : Nat) (A B : List Form) (L : List Rule) : Prop where
  a : A.length < n
  b : B.length < n
  r : L.length < n
  ac : ∀ f ∈ A, f.fCols.length < n
  bc : ∀ f ∈ B, f.fCols.length < n
section
variable {n : Nat} {A B : List Form} {L : List Rule}
theorem f80_eq (hz : RuleSz n A B L) (hn : n < 4611686018427387904) : f80 n A B L = some (rulesE A B L) := by
  have hA := hz.a; have hB := hz.b; have hL := hz.r
  unfold f80 rulesE
  cases hd : decide (len L > 24) with
  | true => rfl
  | false =>
  simp only [cond_false]
  have l1 := scanF L.length (f80_k10 n A L B) (E1 A B L) (f80_l14 L n A B (f80_k10 n A L B)) (fun m k hk => by
      rw [f80_l14.eq_2, ltL L k hk, gi_nat]
      unfold E1 f80_k51
      simp only [List.getElem?_eq_getElem hk, Option.bind_some, cond_true]
      rw [f52_eq hA (by omega), f52_eq hB (by omega), sli_take L k (by omega)]
      simp only [Option.bind_some]
      rw [f78_eq (by rw [List.length_take]; omega) (by rw [List.length_take]; omega)]
      simp only [Option.bind_some]
      cases decide (formIx A L[k].fClass < 0) <;> cases decide (formIx B L[k].fTo < 0) <;> cases hasRule (L.take k) L[k].fClass <;> rfl)
    (fun m => by rw [f80_l14.eq_2, geL]; rfl) (by omega) (n := n) hL
  rw [l1]
  cases h1 : fst0 (E1 A B L) L.length 0 == 0 with
  | false => rfl
  | true =>
  simp only [cond_true]
  have z1 := eq_of_beq h1
  have l2 := scanF A.length (f80_k68 n L A B) (E2 A L) (f80_l72 A n L (f80_k68 n L A B)) (fun m k hk => by
      rw [f80_l72.eq_2, ltL A k hk, gi_nat]
      unfold E2
      simp only [List.getElem?_eq_getElem hk, Option.bind_some, cond_true]
      rw [f78_eq hL (by omega)]
      simp only [Option.bind_some]
      cases hasRule L A[k].fName <;> rfl)
    (fun m => by rw [f80_l72.eq_2, geL]; rfl) (by omega) (n := n) hA
  unfold f80_k10
  rw [l2]
  cases h2 : fst0 (E2 A L) A.length 0 == 0 with
  | false => rfl
  | true =>
  simp only [cond_true]
  have l3 := scanF L.length f80_k102 (E3 A B L) (f80_l106 L n A B f80_k102) (fun m k hk => by
      obtain ⟨i1, i2, _⟩ := E1_zero z1 hk
      obtain ⟨a1, a2, _⟩ := formAt_gi i1
      obtain ⟨b1, b2, _⟩ := formAt_gi i2
      rw [f80_l106.eq_2, ltL L k hk, gi_nat]
      unfold E3
      simp only [List.getElem?_eq_getElem hk, Option.bind_some, cond_true]
      rw [f52_eq hA (by omega), f52_eq hB (by omega)]
      simp only [Option.bind_some]
      rw [a1, b1]
      simp only [Option.bind_some]
      rw [bne_len]
      generalize formAt A L[k].fClass = f at *
      generalize formAt B L[k].fTo = t at *
      cases hl : L[k].fGives.length == t.fCols.length with
      | false => rfl
      | true =>
      have hl' := eq_of_beq hl
      have hac := hz.ac f a2
      have hbc := hz.bc t b2
      simp only [Bool.not_true, cond_false, cond_true]
      generalize hG : f80_l106 L n A B f80_k102 m (wr .i64 ((k : Int) + 1)) = G
      have l4 := scanF L[k].fGives.length (f80_k171 k (f80_l106 L n A B f80_k102 m)) (E4 L L[k] f t) (f80_l194 L[k] t n L f (f80_k171 k (f80_l106 L n A B f80_k102 m))) (fun m' j hj => by
          rw [f80_l194.eq_2, ltL _ j hj, gi_nat, gi_nat]
          unfold E4
          simp only [List.getElem?_eq_getElem hj, List.getElem?_eq_getElem (show j < t.fCols.length by omega), Option.bind_some, cond_true]
          rw [f116_eq hL hac hn]
          simp only [Option.bind_some, bne]
          cases giveB L L[k].fGives[j] f.fCols t.fCols[j] == 0 <;> rfl)
        (fun m' => by rw [f80_l194.eq_2, geL]; rfl) (by omega) (n := n) (by omega)
      rw [l4]
      unfold f80_k171
      rw [hG])
    (fun m => by rw [f80_l106.eq_2, geL]; rfl) (by omega) (n := n) hL
  unfold f80_k68
  rw [l3]
  unfold f80_k102
  cases h3 : fst0 (E3 A B L) L.length 0 == 0 with
  | false => rfl
  | true => rw [eq_of_beq h3]; rfl
end
end Go.Proofs
end
section
set_option linter.unusedVariables false
namespace Go.Proofs
open Go.Vm
theorem classB_ANY : classB ANY = false := by decide
theorem FormsOk.name {l : List Form} (h : FormsOk l) {s : ByteArray} (hi : ¬ formIx l s < 0) : classB s = true := by
  obtain ⟨_, h2, h3⟩ := formAt_gi hi
  rw [← sEqF_eq h3]
  exact h.nm _ h2
section
variable {n : Nat} {A B : List Form} {L : List Rule}
theorem noAny_of (hA : FormsOk A) (h : fst0 (E1 A B L) L.length 0 = 0) : NoAny L := fun r hr => by
  obtain ⟨k, hk, rfl⟩ := List.getElem_of_mem hr
  obtain ⟨h1, _, _⟩ := E1_zero h hk
  have h2 := hA.name h1
  cases h3 : sEqF L[k].fClass ANY with
  | false => rfl
  | true =>
    rw [sEqF_eq h3, classB_ANY] at h2
    cases h2
end
end Go.Proofs
end
section
set_option linter.unusedVariables false
namespace Go.Proofs
open Go.Vm
theorem f49_two {n : Nat} (h : 100 < n) (a b : Int) : f49 n [a, b] = some (bif a != 0 then a else b) := by
  obtain ⟨m, rfl⟩ : ∃ m, n = m + 3 := ⟨n - 3, by omega⟩
  show (bif a != 0 then some a else bif b != 0 then some b else f49_k3) = _
  unfold f49_k3
  cases ha : a != 0 with
  | true => rfl
  | false =>
    cases hb : b != 0 with
    | true => rfl
    | false =>
      have : b = 0 := by simpa using hb
      rw [this]; rfl
theorem f49_one {n : Nat} (h : 100 < n) (a : Int) : f49 n [a] = some a := by
  obtain ⟨m, rfl⟩ : ∃ m, n = m + 3 := ⟨n - 3, by omega⟩
  show (bif a != 0 then some a else f49_k3) = _
  unfold f49_k3
  cases ha : a != 0 with
  | true => rfl
  | false =>
    have : a = 0 := by simpa using ha
    rw [this]; rfl
theorem ruleSz {n : Nat} {A B : List Form} {L : List Rule} (hA : FormSz n A) (hB : FormSz n B) (hL : L.length < n) : RuleSz n A B L :=
  ⟨hA.1, hB.1, hL, fun f hf => (hA.2 f hf).2.1, fun f hf => (hB.2 f hf).2.1⟩
end Go.Proofs
end
section
set_option linter.unusedVariables false
namespace Go.Proofs
open Go.Vm
section
variable {α τ ρ : Type}
def fin (mk : Nat → α ⊕ τ) : Nat → Nat → List α → List α ⊕ τ
  | 0, k, s => .inl s
  | d + 1, k, s => match mk k with
    | .inl x => fin mk d (k + 1) (s ++ [x])
    | .inr t => .inr t
theorem fin_len {mk : Nat → α ⊕ τ} : ∀ (d k : Nat) (s r : List α), fin mk d k s = .inl r → r.length = s.length + d
  | 0, k, s, r, h => by cases h; rfl
  | d + 1, k, s, r, h => by
    have h1 : (match mk k with | .inl x => fin mk d (k + 1) (s ++ [x]) | .inr t => .inr t) = Sum.inl r := h
    cases hm : mk k with
    | inl x =>
      rw [hm] at h1
      have := fin_len d (k + 1) (s ++ [x]) r h1
      rw [this, List.length_append]; simp; omega
    | inr t => rw [hm] at h1; cases h1
theorem fin_mem {mk : Nat → α ⊕ τ} {P : α → Prop} (hP : ∀ k x, mk k = .inl x → P x) : ∀ (d k : Nat) (s r : List α), fin mk d k s = .inl r → (∀ x ∈ s, P x) → ∀ x ∈ r, P x
  | 0, k, s, r, h, hs => by cases h; exact hs
  | d + 1, k, s, r, h, hs => by
    have h1 : (match mk k with | .inl x => fin mk d (k + 1) (s ++ [x]) | .inr t => .inr t) = Sum.inl r := h
    cases hm : mk k with
    | inl x =>
      rw [hm] at h1
      refine fin_mem hP d (k + 1) (s ++ [x]) r h1 (fun y hy => ?_)
      rcases List.mem_append.1 hy with h2 | h2
      · exact hs y h2
      · rw [List.mem_singleton.1 h2]; exact hP k x hm
    | inr t => rw [hm] at h1; cases h1
theorem scanE1 (N : Nat) (mk : Nat → α ⊕ τ) (K : List α → Option ρ) (G : τ → Option ρ) (L : Nat → Int → List α → Option ρ)
    (hL : ∀ m (k : Nat) s, k < N → s.length = k → L (m + 1) k s = (mk k).elim (fun x => L m (wr .i64 (k + 1)) (s ++ [x])) G)
    (hK : ∀ m s, s.length = N → L (m + 1) N s = K s) (hl : N < 4611686018427387904) :
    ∀ (d k m : Nat) (s : List α), d + k = N → d < m → s.length = k → L m k s = (fin mk d k s).elim K G
  | 0, k, m, s, hk, hm, hs => by
    obtain ⟨m, rfl⟩ := Nat.exists_eq_succ_of_ne_zero (by omega : m ≠ 0)
    have : k = N := by omega
    subst this
    exact hK m s hs
  | d + 1, k, m, s, hk, hm, hs => by
    obtain ⟨m, rfl⟩ := Nat.exists_eq_succ_of_ne_zero (by omega : m ≠ 0)
    rw [hL m k s (by omega) hs, wr_id (by omega) (by omega)]
    show _ = Sum.elim K G (match mk k with | .inl x => fin mk d (k + 1) (s ++ [x]) | .inr t => .inr t)
    cases hm' : mk k with
    | inl x =>
      have := scanE1 N mk K G L hL hK hl d (k + 1) m (s ++ [x]) (by omega) (by omega) (by simp [hs])
      push_cast at this
      exact this
    | inr t => rfl
theorem scanE (N : Nat) (mk : Nat → α ⊕ τ) (K : List α → Option ρ) (G : τ → Option ρ) (L : Nat → Int → List α → Option ρ)
    (hL : ∀ m (k : Nat) s, k < N → s.length = k → L (m + 1) k s = (mk k).elim (fun x => L m (wr .i64 (k + 1)) (s ++ [x])) G)
    (hK : ∀ m s, s.length = N → L (m + 1) N s = K s) (hl : N < 4611686018427387904) {n : Nat} (hn : N < n) :
    L n 0 [] = (fin mk N 0 []).elim K G := scanE1 N mk K G L hL hK hl N 0 n [] (by omega) hn rfl
end
def noV : Val := ⟨0, 0⟩
def madeB (g : Give) (cols : List Col) (vals : List Val) (c : Col) : Val × Bool :=
  bif g.fHow == 6 then (bif c.fKind == 2 then (⟨2, g.fN⟩, true) else (⟨1, g.fN⟩, true)) else bif g.fHow == 7 then (⟨3, 0⟩, true) else
  let x := (gi vals (colIx cols g.fFrom)).getD noV
  bif g.fHow == 2 then (⟨1, x.fN⟩, true) else bif g.fHow == 3 then (⟨2, x.fN⟩, inR x.fN 0 1) else bif g.fHow == 4 then (x, decide (x.fN < g.fN)) else
  bif g.fHow == 5 then (x, x.fKind == 4) else (x, true)
theorem giveB_src {L : List Rule} {g : Give} {cols : List Col} {to : Col} (h : giveB L g cols to = 0) : inR g.fHow 1 7 = true ∧ (inR g.fHow 1 5 = true → ¬ colIx cols g.fFrom < 0) := by
  unfold giveB at h
  have h3 : ∀ a b c : Bool, (bif a then (4 : Int) else bif b then 1 else bif c then 0 else 8) = 0 → a = false ∧ b = false := by decide
  obtain ⟨h4, h5⟩ := h3 _ _ _ h
  refine ⟨?_, fun h6 => ?_⟩
  · rw [argBad_eq] at h5
    revert h5
    cases inR g.fHow 1 7 <;> intro h5 <;> first | rfl | cases h5
  · rw [h6] at h4
    exact of_decide_eq_false h4
section
variable {n : Nat} {L : List Rule} {g : Give} {f : Form} {x : Node} {c : Col}
theorem src_gi (hl : x.fVals.length = f.fCols.length) (h : ¬ colIx f.fCols g.fFrom < 0) : ∃ v, gi x.fVals (colIx f.fCols g.fFrom) = some v := by
  unfold colIx at h ⊢
  rcases ix_find (fun x : Col => sEqF x.fName g.fFrom) f.fCols 0 with ⟨h1, h2, h3⟩ | ⟨j, y, h1, h2, h3, h4, h5⟩
  · rw [h3] at h; omega
  · rw [h3, Nat.zero_add, gi_nat]
    have hj := (List.getElem?_eq_some_iff.1 h4).1
    exact ⟨_, List.getElem?_eq_getElem (by omega)⟩
theorem f79_eq (hg : giveB L g f.fCols c = 0) (hl : x.fVals.length = f.fCols.length) (hc : f.fCols.length < n) (hn : n < 4611686018427387904) : f79 n g f.fCols x.fVals c = some (madeB g f.fCols x.fVals c) := by
  obtain ⟨h7, h5⟩ := giveB_src hg
  unfold f79 madeB
  cases h6 : g.fHow == 6 with
  | true => cases c.fKind == 2 <;> rfl
  | false =>
  cases h8 : g.fHow == 7 with
  | true => rfl
  | false =>
  have hi : inR g.fHow 1 5 = true := by
    unfold inR at h7 ⊢
    have a := of_decide_eq_true (Bool.and_eq_true _ _ ▸ h7 : _ ∧ _).1
    have b := of_decide_eq_true (Bool.and_eq_true _ _ ▸ h7 : _ ∧ _).2
    have c1 : g.fHow ≠ 6 := by simpa using h6
    have c2 : g.fHow ≠ 7 := by simpa using h8
    simp only [Bool.and_eq_true, decide_eq_true_eq]
    omega
  obtain ⟨v, hv⟩ := src_gi hl (h5 hi)
  simp only [cond_false]
  rw [f95_eq hc (by omega)]
  simp only [Option.bind_some]
  rw [hv]
  simp only [Option.bind_some, Option.getD_some, f86_eq, cs]
end
end Go.Proofs
end
section
set_option linter.unusedVariables false
namespace Go.Proofs
open Go.Vm
structure RuleOk (A B : List Form) (L : List Rule) (c : ByteArray) : Prop where
  at_ : gi L (ixOf (ruleP c) L 0) = some (ruleAt L c)
  to : ¬ formIx B (ruleAt L c).fTo < 0
  ln : (ruleAt L c).fGives.length = (formAt B (ruleAt L c).fTo).fCols.length
  gv : ∀ (j : Nat) (h1 : j < (ruleAt L c).fGives.length) (h2 : j < (formAt B (ruleAt L c).fTo).fCols.length), giveB L (ruleAt L c).fGives[j] (formAt A c).fCols (formAt B (ruleAt L c).fTo).fCols[j] = 0
theorem rulesE_zero {A B : List Form} {L : List Rule} (h : rulesE A B L = 0) : fst0 (E1 A B L) L.length 0 = 0 ∧ fst0 (E2 A L) A.length 0 = 0 ∧ fst0 (E3 A B L) L.length 0 = 0 := by
  unfold rulesE at h
  cases hd : decide (len L > 24) with
  | true => rw [hd] at h; cases h
  | false =>
    rw [hd] at h
    cases h1 : fst0 (E1 A B L) L.length 0 == 0 with
    | false => rw [h1] at h; have h' : fst0 (E1 A B L) L.length 0 = 0 := h; rw [h'] at h1; cases h1
    | true =>
      rw [h1] at h
      cases h2 : fst0 (E2 A L) A.length 0 == 0 with
      | false => rw [h2] at h; have h' : fst0 (E2 A L) A.length 0 = 0 := h; rw [h'] at h2; cases h2
      | true =>
        rw [h2] at h
        exact ⟨eq_of_beq h1, eq_of_beq h2, h⟩
theorem ruleOk_of {A B : List Form} {L : List Rule} (h : rulesE A B L = 0) {c : ByteArray} (hc : ¬ formIx A c < 0) : RuleOk A B L c := by
  obtain ⟨z1, z2, z3⟩ := rulesE_zero h
  obtain ⟨_, m1, m2⟩ := formAt_gi hc
  have hr : hasRule L c = true := by
    obtain ⟨i, hi, he⟩ := List.getElem_of_mem m1
    have := fst0_zero A.length 0 z2 i (Nat.zero_le _) (by omega)
    unfold E2 at this
    rw [List.getElem?_eq_getElem hi] at this
    have this : (bif hasRule L A[i].fName then (0 : Int) else 5) = 0 := this
    rw [he, sEqF_eq m2] at this
    revert this
    cases hasRule L c <;> intro h <;> first | rfl | cases h
  rcases ix_find (ruleP c) L 0 with ⟨h1, h2, h3⟩ | ⟨j, r, h1, h2, h3, h4, h5⟩
  · unfold hasRule at hr; rw [h2] at hr; cases hr
  · have e : ruleAt L c = r := by unfold ruleAt; rw [h1]; rfl
    obtain ⟨hj, hj'⟩ := List.getElem?_eq_some_iff.1 h4
    obtain ⟨i1, i2, _⟩ := E1_zero z1 hj
    have e3 := fst0_zero L.length 0 z3 j (Nat.zero_le _) (by omega)
    unfold E3 at e3
    rw [h4] at e3
    rw [hj'] at i1 i2
    have hcl : r.fClass = c := sEqF_eq h5
    have e3 : (bif r.fGives.length == (formAt B r.fTo).fCols.length then fst0 (E4 L r (formAt A r.fClass) (formAt B r.fTo)) r.fGives.length 0 else 2) = 0 := e3
    rw [hcl] at e3
    cases hl : r.fGives.length == (formAt B r.fTo).fCols.length with
    | false => rw [hl] at e3; cases e3
    | true =>
      rw [hl] at e3
      have hl' := eq_of_beq hl
      refine ⟨?_, ?_, ?_, ?_⟩
      · rw [e, h3, Nat.zero_add, gi_nat, h4]
      · rw [e]; exact i2
      · rw [e]; exact hl'
      · rw [e]
        intro j h1 h2
        have := fst0_zero r.fGives.length 0 e3 j (Nat.zero_le _) (by omega)
        unfold E4 at this
        rw [List.getElem?_eq_getElem h1, List.getElem?_eq_getElem h2] at this
        exact this
def valMk (A B : List Form) (L : List Rule) (x : Node) (j : Nat) : Val ⊕ ByteArray := match (formAt B (ruleAt L x.fClass).fTo).fCols[j]?, (ruleAt L x.fClass).fGives[j]? with
  | some c, some g => bif (madeB g (formAt A x.fClass).fCols x.fVals c).2 then .inl (madeB g (formAt A x.fClass).fCols x.fVals c).1 else .inr c.fName
  | _, _ => .inr noS
def rowMk (A B : List Form) (L : List Rule) (x : Node) : List Val ⊕ ByteArray := fin (valMk A B L x) (formAt B (ruleAt L x.fClass).fTo).fCols.length 0 []
def nodeMk (A B : List Form) (L : List Rule) (g : Graph) (k : Nat) : Node ⊕ Refusal := match g.fNodes[k]? with
  | some x => (rowMk A B L x).elim (fun v => .inl ⟨(ruleAt L x.fClass).fTo, v⟩) (fun s => .inr ⟨k, s⟩)
  | none => .inr ⟨0, noS⟩
def noG : Graph := ⟨[], []⟩
def convR (A B : List Form) (L : List Rule) (g : Graph) : Graph × Refusal × Int :=
  (fin (nodeMk A B L g) g.fNodes.length 0 []).elim (fun ns => (⟨ns, g.fRoots⟩, ⟨0, noS⟩, 0)) (fun r => (noG, r, 10))
section
variable {n : Nat} {A B : List Form} {L : List Rule} {g : Graph}
theorem f32_l (hz : RuleSz n A B L) (hg : GraphSz n g) (hn : n < 1000000000) (hr : rulesE A B L = 0) (hc : ∀ x ∈ g.fNodes, ¬ formIx A x.fClass < 0 ∧ x.fVals.length = (formAt A x.fClass).fCols.length) (K : List Node → Option (Graph × Refusal × Int)) :
    f32_l29 g n L A B K n 0 [] = (fin (nodeMk A B L g) g.fNodes.length 0 []).elim K (fun r => some (noG, r, 10)) := by
  have hA := hz.a; have hB := hz.b; have hL := hz.r; have hN := hg.1
  refine scanE g.fNodes.length (nodeMk A B L g) K (fun r => some (noG, r, 10)) (f32_l29 g n L A B K) (fun m k s hk hs => ?_) (fun m s hs => by rw [f32_l29.eq_2, geL]; rfl) (by omega) hN
  rw [f32_l29.eq_2, ltL _ k hk, gi_nat]
  unfold nodeMk
  simp only [List.getElem?_eq_getElem hk, Option.bind_some, cond_true]
  obtain ⟨c1, c2⟩ := hc g.fNodes[k] (List.getElem_mem hk)
  generalize g.fNodes[k] = x at *
  have ro := ruleOk_of hr c1
  obtain ⟨a1, a2, _⟩ := formAt_gi c1
  obtain ⟨b1, b2, _⟩ := formAt_gi ro.to
  rw [f78_eq hL (by omega), f52_eq hA (by omega)]
  simp only [Option.bind_some]
  rw [a1, f52_eq hB (by omega)]
  simp only [Option.bind_some]
  rw [b1]
  simp only [Option.bind_some]
  have hac := hz.ac _ a2
  have hbc := hz.bc _ b2
  have l4 := scanE (formAt B (ruleAt L x.fClass).fTo).fCols.length (valMk A B L x) (f32_k120 s (ruleAt L x.fClass, hasRule L x.fClass) k (f32_l29 g n L A B K m)) (fun nm => some (noG, ⟨k, nm⟩, 10))
    (f32_l128 (formAt B (ruleAt L x.fClass).fTo) (ruleAt L x.fClass, hasRule L x.fClass) n (formAt A x.fClass) x k (f32_k120 s (ruleAt L x.fClass, hasRule L x.fClass) k (f32_l29 g n L A B K m))) (fun m' j v hj hv => by
      have hj2 : j < (ruleAt L x.fClass).fGives.length := by rw [ro.ln]; exact hj
      rw [f32_l128.eq_2, ltL _ j hj, gi_nat, gi_nat]
      unfold valMk
      simp only [List.getElem?_eq_getElem hj, List.getElem?_eq_getElem hj2, Option.bind_some, cond_true]
      rw [f79_eq (ro.gv j hj2 hj) c2 hac (by omega)]
      simp only [Option.bind_some]
      cases (madeB (ruleAt L x.fClass).fGives[j] (formAt A x.fClass).fCols x.fVals (formAt B (ruleAt L x.fClass).fTo).fCols[j]).2 with
      | false => rfl
      | true =>
        simp only [Bool.not_true, cond_false, cond_true]
        rw [app2_eq (by simp; omega)]
        rfl)
    (fun m' v hv => by rw [f32_l128.eq_2, geL]; rfl) (by omega) (n := n) hbc
  rw [l4]
  unfold rowMk
  cases fin (valMk A B L x) (formAt B (ruleAt L x.fClass).fTo).fCols.length 0 [] with
  | inl v =>
    show f32_k120 s (ruleAt L x.fClass, hasRule L x.fClass) k (f32_l29 g n L A B K m) v = _
    unfold f32_k120 f32_k106
    rw [app2_eq (by simp; omega)]
    rfl
  | inr nm => rfl
theorem rowMk_len {x : Node} {v : List Val} (hz : RuleSz n A B L) (hr : rulesE A B L = 0) (hc : ¬ formIx A x.fClass < 0) (h : rowMk A B L x = .inl v) : v.length < n := by
  unfold rowMk at h
  rw [fin_len _ _ _ _ h]
  have := hz.bc _ (formAt_gi (ruleOk_of hr hc).to).2.1
  simpa using this
theorem convR_sz (hz : RuleSz n A B L) (hg : GraphSz n g) (hr : rulesE A B L = 0) (hc : ∀ x ∈ g.fNodes, ¬ formIx A x.fClass < 0) : GraphSz n (convR A B L g).1 := by
  have h0 : GraphSz n noG := ⟨by have := hg.1; show 0 < n; omega, by have := hg.1; show 0 < n; omega, fun x hx => nomatch hx⟩
  unfold convR
  cases h : fin (nodeMk A B L g) g.fNodes.length 0 [] with
  | inr r => exact h0
  | inl ns =>
    refine ⟨?_, hg.2.1, ?_⟩
    · show ns.length < n
      rw [fin_len _ _ _ _ h]
      have := hg.1
      simpa using this
    · refine fin_mem (P := fun x : Node => x.fVals.length < n) (fun k y hy => ?_) _ _ _ _ h (fun x hx => nomatch hx)
      unfold nodeMk at hy
      cases hx : g.fNodes[k]? with
      | none => rw [hx] at hy; cases hy
      | some x =>
        rw [hx] at hy
        have hy : (rowMk A B L x).elim (fun v => (Sum.inl ⟨(ruleAt L x.fClass).fTo, v⟩ : Node ⊕ Refusal)) (fun s => .inr ⟨k, s⟩) = .inl y := hy
        cases hv : rowMk A B L x with
        | inr s => rw [hv] at hy; cases hy
        | inl v =>
          rw [hv] at hy
          cases hy
          exact rowMk_len hz hr (hc x (List.mem_of_getElem? hx)) hv
end
end Go.Proofs
end
section
set_option linter.unusedVariables false
namespace Go.Proofs
open Go.Vm
def anyN (p : Nat → Bool) : Nat → Nat → Bool
  | 0, _ => false
  | d + 1, k => p k || anyN p d (k + 1)
def joinB (h g : Give) : Give × Bool :=
  bif g.fHow == 1 then (h, true) else bif h.fHow == 1 then (⟨h.fFrom, g.fHow, g.fN⟩, true) else bif g.fHow == 2 then (h, h.fHow == 6) else
  bif g.fHow == 3 then (bif h.fHow == 2 then (⟨h.fFrom, 1, 0⟩, true) else bif h.fHow == 6 then (h, inR h.fN 0 1) else (h, false)) else
  bif g.fHow == 4 then (bif h.fHow == 2 then (h, decide (g.fN ≥ 2)) else bif h.fHow == 4 then (⟨h.fFrom, 4, mnI h.fN g.fN⟩, true) else bif h.fHow == 6 then (h, decide (h.fN < g.fN)) else (h, false)) else
  (h, h.fHow == 5)
theorem inR17 {x : Int} (h : inR x 1 7 = true) : x = 1 ∨ x = 2 ∨ x = 3 ∨ x = 4 ∨ x = 5 ∨ x = 6 ∨ x = 7 := by
  unfold inR at h
  simp only [Bool.and_eq_true, decide_eq_true_eq] at h
  omega
def asksB (g : Give) : Bool := bif g.fHow == 3 then true else bif g.fHow == 4 then true else g.fHow == 5
def usesB (l : List Give) (s : ByteArray) : Bool := l.any fun g => inR g.fHow 1 5 && sEqF g.fFrom s
end Go.Proofs
end
section
set_option linter.unusedVariables false
set_option linter.unusedSimpArgs false
namespace Go.Proofs
open Go.Vm
def suitsC (cl : Int → ByteArray) (c : Col) (v : Val) : Bool :=
  bif c.fKind == 1 then v.fKind == 1 else bif c.fKind == 2 then v.fKind == 2 else bif v.fKind == 3 then true else
  (v.fKind == 4) && (sEqF c.fClass ANY || sEqF (cl v.fN) c.fClass)
def clsAt (l : List Node) (i : Int) : ByteArray := ((gi l i).map fun x => x.fClass).getD noS
theorem giveB_fit {L : List Rule} {g : Give} {cols : List Col} {to : Col} (h : giveB L g cols to = 0) : fitsB L g (srcOf cols g) to = true ∧ numdB g to = true := by
  have h1 := h
  unfold giveB at h
  have h3 : ∀ a b c : Bool, (bif a then (4 : Int) else bif b then 1 else bif c then 0 else 8) = 0 → b = false ∧ c = true := by decide
  obtain ⟨h4, h5⟩ := h3 _ _ _ h
  refine ⟨h5, ?_⟩
  rw [argBad_eq] at h4
  revert h4
  rw [(giveB_src h1).1]
  cases numdB g to <;> intro h <;> first | rfl | cases h
section
variable {L : List Rule} {c1 c2 : Int → ByteArray} {m : Int}
theorem leadKeep (hna : NoAny L) (hcls : ∀ i, valB ⟨4, i⟩ m = true → c2 i = (ruleAt L (c1 i)).fTo) {a b : Col} {v : Val} (ha : a.fKind = 3) (hb : b.fKind = 3) (hl : leadsB L a.fClass b.fClass = true) (hv : valB v m = true) (hs : suitsC c1 a v = true) : suitsC c2 b v = true := by
  obtain ⟨vk, vn⟩ := v
  unfold suitsC at hs ⊢
  rw [ha] at hs
  rw [hb]
  have hs : (bif vk == 3 then true else (vk == 4) && (sEqF a.fClass ANY || sEqF (c1 vn) a.fClass)) = true := hs
  show (bif vk == 3 then true else (vk == 4) && (sEqF b.fClass ANY || sEqF (c2 vn) b.fClass)) = true
  cases h3 : vk == 3 with
  | true => rfl
  | false =>
    rw [h3] at hs
    have hs : ((vk == 4) && (sEqF a.fClass ANY || sEqF (c1 vn) a.fClass)) = true := hs
    rw [Bool.and_eq_true, Bool.or_eq_true] at hs
    obtain ⟨h4, h5⟩ := hs
    have h4' : vk = 4 := eq_of_beq h4
    subst h4'
    show (true && (sEqF b.fClass ANY || sEqF (c2 vn) b.fClass)) = true
    unfold leadsB at hl
    cases hb : sEqF b.fClass ANY with
    | true => rfl
    | false =>
      rw [hb] at hl
      have hl : (bif hasRule L a.fClass then sEqF (ruleAt L a.fClass).fTo b.fClass else false) = true := hl
      cases hr : hasRule L a.fClass with
      | false => rw [hr] at hl; cases hl
      | true =>
        rw [hr] at hl
        have hl : sEqF (ruleAt L a.fClass).fTo b.fClass = true := hl
        rcases h5 with h5 | h5
        · rw [hasRule_any hna h5] at hr; cases hr
        · rw [hcls vn hv, sEqF_eq h5, hl]; rfl
theorem inR_wide {x : Int} (h : inR x 0 1 = true) : inR x (-1099511627776) 1099511627776 = true := by
  unfold inR at h ⊢
  simp only [Bool.and_eq_true, decide_eq_true_eq] at h ⊢
  omega
theorem valKeep (hna : NoAny L) (hcls : ∀ i, valB ⟨4, i⟩ m = true → c2 i = (ruleAt L (c1 i)).fTo) {g : Give} {cols : List Col} {vals : List Val} {b : Col}
    (hg : giveB L g cols b = 0) (hlen : vals.length = cols.length)
    (hak : ∀ a ∈ cols, inR a.fKind 1 3 = true)
    (hv : ∀ (i : Nat) a v, cols[i]? = some a → vals[i]? = some v → valB v m = true ∧ suitsC c1 a v = true)
    (hok : (madeB g cols vals b).2 = true) : valB (madeB g cols vals b).1 m = true ∧ suitsC c2 b (madeB g cols vals b).1 = true := by
  obtain ⟨h7, h5⟩ := giveB_src hg
  obtain ⟨hf, hn⟩ := giveB_fit hg
  have src : inR g.fHow 1 5 = true → ∃ v, gi vals (colIx cols g.fFrom) = some v ∧ valB v m = true ∧ suitsC c1 (srcOf cols g) v = true ∧ inR (srcOf cols g).fKind 1 3 = true := fun h => by
    have hi := h5 h
    have e : srcOf cols g = colAt cols g.fFrom := by unfold srcOf; rw [h]; rfl
    have hi2 := (colAt_gi hi).1
    have hi3 := hak _ (colAt_gi hi).2.1
    rw [e]
    unfold colIx at hi hi2 ⊢
    rcases ix_find (fun x : Col => sEqF x.fName g.fFrom) cols 0 with ⟨h1, h2, h3⟩ | ⟨j, y, h1, h2, h3, h4, h5⟩
    · rw [h3] at hi; omega
    · rw [h3, Nat.zero_add, gi_nat] at hi2
      rw [h3, Nat.zero_add, gi_nat]
      have hj := (List.getElem?_eq_some_iff.1 h4).1
      have hv' := List.getElem?_eq_getElem (show j < vals.length by omega)
      exact ⟨_, hv', (hv j _ _ hi2 hv').1, (hv j _ _ hi2 hv').2, hi3⟩
  generalize srcOf cols g = a at *
  obtain ⟨gf, gh, gn⟩ := g
  have cases7 : gh = 1 ∨ gh = 2 ∨ gh = 3 ∨ gh = 4 ∨ gh = 5 ∨ gh = 6 ∨ gh = 7 := inR17 h7
  unfold madeB at hok ⊢
  rcases cases7 with rfl | rfl | rfl | rfl | rfl | rfl | rfl
  · obtain ⟨v, e, w1, w2, w3⟩ := src rfl
    have e : gi vals (colIx cols gf) = some v := e
    have hf : (bif a.fKind == b.fKind then (bif a.fKind != 3 then true else leadsB L a.fClass b.fClass) else false) = true := hf
    show valB ((gi vals (colIx cols gf)).getD noV) m = true ∧ suitsC c2 b ((gi vals (colIx cols gf)).getD noV) = true
    rw [e]
    refine ⟨w1, ?_⟩
    show suitsC c2 b v = true
    cases hk : a.fKind == b.fKind with
    | false => rw [hk] at hf; cases hf
    | true =>
      rw [hk] at hf
      have hk' : a.fKind = b.fKind := eq_of_beq hk
      cases h3 : a.fKind != 3 with
      | false =>
        rw [h3] at hf
        have h3' : a.fKind = 3 := by simpa using h3
        exact leadKeep hna hcls h3' (by rw [← hk', h3']) hf w1 w2
      | true =>
        have h3' : a.fKind ≠ 3 := by simpa using h3
        by_cases k1 : a.fKind = 1
        · unfold suitsC at w2 ⊢
          rw [k1] at w2
          rw [← hk', k1]
          exact w2
        · by_cases k2 : a.fKind = 2
          · unfold suitsC at w2 ⊢
            rw [k2] at w2
            rw [← hk', k2]
            exact w2
          · unfold inR at w3
            simp only [Bool.and_eq_true, decide_eq_true_eq] at w3
            omega
  · obtain ⟨v, e, w1, w2, w3⟩ := src rfl
    have e : gi vals (colIx cols gf) = some v := e
    have hf : (bif a.fKind == 2 then b.fKind == 1 else false) = true := hf
    show valB ⟨1, ((gi vals (colIx cols gf)).getD noV).fN⟩ m = true ∧ suitsC c2 b ⟨1, ((gi vals (colIx cols gf)).getD noV).fN⟩ = true
    rw [e]
    obtain ⟨vk, vn⟩ := v
    cases ha : a.fKind == 2 with
    | false => rw [ha] at hf; cases hf
    | true =>
      rw [ha] at hf
      have hb : b.fKind = 1 := eq_of_beq hf
      unfold suitsC at w2 ⊢
      rw [eq_of_beq ha] at w2
      have w2 : (vk == 2) = true := w2
      have hvk : vk = 2 := eq_of_beq w2
      subst hvk
      rw [hb]
      exact ⟨inR_wide w1, rfl⟩
  · obtain ⟨v, e, w1, w2, w3⟩ := src rfl
    have e : gi vals (colIx cols gf) = some v := e
    have hf : (bif a.fKind == 1 then b.fKind == 2 else false) = true := hf
    have hok : inR ((gi vals (colIx cols gf)).getD noV).fN 0 1 = true := hok
    show valB ⟨2, ((gi vals (colIx cols gf)).getD noV).fN⟩ m = true ∧ suitsC c2 b ⟨2, ((gi vals (colIx cols gf)).getD noV).fN⟩ = true
    refine ⟨hok, ?_⟩
    cases ha : a.fKind == 1 with
    | false => rw [ha] at hf; cases hf
    | true =>
      rw [ha] at hf
      have hb : b.fKind = 2 := eq_of_beq hf
      unfold suitsC
      rw [hb]
      rfl
  · obtain ⟨v, e, w1, w2, w3⟩ := src rfl
    have e : gi vals (colIx cols gf) = some v := e
    have hf : (bif a.fKind == 1 then b.fKind == 1 else false) = true := hf
    show valB ((gi vals (colIx cols gf)).getD noV) m = true ∧ suitsC c2 b ((gi vals (colIx cols gf)).getD noV) = true
    rw [e]
    refine ⟨w1, ?_⟩
    show suitsC c2 b v = true
    cases ha : a.fKind == 1 with
    | false => rw [ha] at hf; cases hf
    | true =>
      rw [ha] at hf
      have hb : b.fKind = 1 := eq_of_beq hf
      unfold suitsC at w2 ⊢
      rw [eq_of_beq ha] at w2
      rw [hb]
      exact w2
  · obtain ⟨v, e, w1, w2, w3⟩ := src rfl
    have e : gi vals (colIx cols gf) = some v := e
    have hf : (bif a.fKind == 3 then (bif b.fKind == 3 then leadsB L a.fClass b.fClass else false) else false) = true := hf
    show valB ((gi vals (colIx cols gf)).getD noV) m = true ∧ suitsC c2 b ((gi vals (colIx cols gf)).getD noV) = true
    rw [e]
    refine ⟨w1, ?_⟩
    show suitsC c2 b v = true
    cases ha : a.fKind == 3 with
    | false => rw [ha] at hf; cases hf
    | true =>
      rw [ha] at hf
      have hf : (bif b.fKind == 3 then leadsB L a.fClass b.fClass else false) = true := hf
      cases hb : b.fKind == 3 with
      | false => rw [hb] at hf; cases hf
      | true =>
        rw [hb] at hf
        exact leadKeep hna hcls (eq_of_beq ha) (eq_of_beq hb) hf w1 w2
  · have hf : (bif b.fKind == 1 then true else bif b.fKind == 2 then inR gn 0 1 else false) = true := hf
    have hn : (bif b.fKind == 2 then (bif sEqF gf noS then inR gn 0 1 else false) else bif sEqF gf noS then inR gn (-1099511627776) 1099511627776 else false) = true := hn
    show valB (bif b.fKind == 2 then ((⟨2, gn⟩ : Val), true) else (⟨1, gn⟩, true)).1 m = true ∧ suitsC c2 b (bif b.fKind == 2 then ((⟨2, gn⟩ : Val), true) else (⟨1, gn⟩, true)).1 = true
    cases h2 : b.fKind == 2 with
    | true =>
      rw [h2] at hn
      have hb := eq_of_beq h2
      have hn : (bif sEqF gf noS then inR gn 0 1 else false) = true := hn
      unfold suitsC
      rw [hb]
      refine ⟨?_, rfl⟩
      show inR gn 0 1 = true
      revert hn
      cases sEqF gf noS <;> intro hn
      · cases hn
      · exact hn
    | false =>
      rw [h2] at hn hf
      have hn : (bif sEqF gf noS then inR gn (-1099511627776) 1099511627776 else false) = true := hn
      have hb : b.fKind = 1 := by
        cases h1 : b.fKind == 1 with
        | true => exact eq_of_beq h1
        | false => rw [h1] at hf; cases hf
      unfold suitsC
      rw [hb]
      refine ⟨?_, rfl⟩
      show inR gn (-1099511627776) 1099511627776 = true
      revert hn
      cases sEqF gf noS <;> intro hn
      · cases hn
      · exact hn
  · have hf : (b.fKind == 3) = true := hf
    have hb := eq_of_beq hf
    unfold suitsC
    rw [hb]
    exact ⟨rfl, rfl⟩
end
end Go.Proofs
end
section
set_option linter.unusedVariables false
set_option linter.unusedSimpArgs false
namespace Go.Proofs
open Go.Vm
section
variable {α τ : Type} {mk : Nat → α ⊕ τ}
theorem fin_get : ∀ (d k : Nat) (s r : List α), fin mk d k s = .inl r → ∃ t, r = s ++ t ∧ t.length = d ∧ ∀ j x, t[j]? = some x → mk (k + j) = .inl x
  | 0, k, s, r, h => by cases h; exact ⟨[], by simp, rfl, fun j x h => by simp at h⟩
  | d + 1, k, s, r, h => by
    have h1 : (match mk k with | .inl x => fin mk d (k + 1) (s ++ [x]) | .inr t => .inr t) = Sum.inl r := h
    cases hm : mk k with
    | inr t => rw [hm] at h1; cases h1
    | inl x =>
      rw [hm] at h1
      obtain ⟨t, e1, e2, e3⟩ := fin_get d (k + 1) (s ++ [x]) r h1
      refine ⟨x :: t, by rw [e1]; simp, by simp [e2], fun j y hj => ?_⟩
      cases j with
      | zero => cases hj; exact hm
      | succ j =>
        have := e3 j y hj
        rwa [show k + 1 + j = k + (j + 1) from by omega] at this
theorem fin_stop {t : τ} : ∀ (d k : Nat) (s : List α), fin mk d k s = .inr t → ∃ j, j < d ∧ mk (k + j) = .inr t ∧ ∀ i, i < j → ∃ x, mk (k + i) = .inl x
  | 0, k, s, h => by cases h
  | d + 1, k, s, h => by
    have h1 : (match mk k with | .inl x => fin mk d (k + 1) (s ++ [x]) | .inr t => .inr t) = Sum.inr t := h
    cases hm : mk k with
    | inr u =>
      rw [hm] at h1
      cases h1
      exact ⟨0, by omega, hm, fun i hi => by omega⟩
    | inl x =>
      rw [hm] at h1
      obtain ⟨j, e1, e2, e3⟩ := fin_stop d (k + 1) (s ++ [x]) h1
      refine ⟨j + 1, by omega, by rwa [show k + 1 + j = k + (j + 1) from by omega] at e2, fun i hi => ?_⟩
      cases i with
      | zero => exact ⟨x, hm⟩
      | succ i =>
        obtain ⟨y, hy⟩ := e3 i (by omega)
        exact ⟨y, by rwa [show k + 1 + i = k + (i + 1) from by omega] at hy⟩
end
theorem formedR_iff (g : Graph) : formedR g = 0 ↔ (g.fNodes.length ≤ 400 ∧ g.fRoots.length ≤ 60) ∧ (∀ x ∈ g.fNodes, x.fVals.length ≤ 30) ∧ (∀ x ∈ g.fNodes, ∀ v ∈ x.fVals, valB v (len g.fNodes) = true) ∧ ∀ v ∈ g.fRoots, valB v (len g.fNodes) = true ∧ refersB v = true := by
  unfold formedR
  have key : ∀ a b c d : Bool, (bif a then (3 : Int) else bif b then 3 else bif c then 2 else bif d then 2 else 0) = 0 ↔ a = false ∧ b = false ∧ c = false ∧ d = false := by decide
  rw [key]
  refine and_congr ?_ (and_congr ?_ (and_congr ?_ ?_))
  · rw [Bool.or_eq_false_iff, decide_eq_false_iff_not, decide_eq_false_iff_not]
    unfold len
    omega
  · rw [List.any_eq_false]
    refine forall_congr' fun x => forall_congr' fun hx => ?_
    rw [decide_eq_true_eq]
    unfold len
    omega
  · rw [List.any_eq_false]
    refine forall_congr' fun x => forall_congr' fun hx => ?_
    rw [Bool.not_eq_true, List.any_eq_false]
    refine forall_congr' fun v => forall_congr' fun hv => ?_
    cases valB v (len g.fNodes) <;> simp
  · rw [List.any_eq_false]
    refine forall_congr' fun v => forall_congr' fun hv => ?_
    cases valB v (len g.fNodes) <;> cases refersB v <;> simp
structure GoodG (A : List Form) (g : Graph) : Prop where
  fr : (g.fNodes.length ≤ 400 ∧ g.fRoots.length ≤ 60) ∧ (∀ x ∈ g.fNodes, x.fVals.length ≤ 30) ∧ (∀ x ∈ g.fNodes, ∀ v ∈ x.fVals, valB v (len g.fNodes) = true) ∧ ∀ v ∈ g.fRoots, valB v (len g.fNodes) = true ∧ refersB v = true
  cl : ∀ x ∈ g.fNodes, ¬ formIx A x.fClass < 0
  ln : ∀ x ∈ g.fNodes, x.fVals.length = (formAt A x.fClass).fCols.length
  su : ∀ x ∈ g.fNodes, ∀ (j : Nat) c v, (formAt A x.fClass).fCols[j]? = some c → x.fVals[j]? = some v → suitsC (clsAt g.fNodes) c v = true
theorem nodeB_iff {A : List Form} {g : Graph} {x : Node} (h : ¬ formIx A x.fClass < 0) : nodeB A g x = true ↔ x.fVals.length = (formAt A x.fClass).fCols.length ∧ ∀ (j : Nat) c v, (formAt A x.fClass).fCols[j]? = some c → x.fVals[j]? = some v → suitsC (clsAt g.fNodes) c v = true := by
  unfold nodeB
  rw [(formAt_gi h).1]
  show ((len x.fVals == len (formAt A x.fClass).fCols) && ((formAt A x.fClass).fCols.zip x.fVals).all fun p => suitsB g p.1 p.2) = true ↔ _
  rw [Bool.and_eq_true]
  refine and_congr ?_ ?_
  · rw [beq_iff_eq]; unfold len; omega
  · rw [List.all_eq_true]
    constructor
    · intro h j c v hc hv
      have : ((formAt A x.fClass).fCols.zip x.fVals)[j]? = some (c, v) := by rw [List.getElem?_zip_eq_some]; exact ⟨hc, hv⟩
      exact h _ (List.mem_of_getElem? this)
    · intro h p hp
      obtain ⟨j, hj⟩ := List.getElem?_of_mem hp
      rw [List.getElem?_zip_eq_some] at hj
      exact h j p.1 p.2 hj.1 hj.2
theorem f59_good {L : List Form} {g : Graph} {n : Nat} (hz : FormSz n L) (hg : GraphSz n g) (hn : n < 4611686018427387904) : f59 n L g = some 0 ↔ GoodG L g := by
  have hL := hz.1
  unfold f59
  rw [f74_eq hg hn]
  simp only [Option.bind_some]
  cases hf : (formedR g != 0) with
  | true =>
    refine ⟨fun h => ?_, fun h => ?_⟩
    · have : formedR g = 0 := Option.some.inj h
      rw [this] at hf; cases hf
    · rw [(formedR_iff g).2 h.fr] at hf; cases hf
  | false =>
    have hf0 : formedR g = 0 := by simpa using hf
    simp only [cond_false]
    rw [f97_eq hg.1 hL hn]
    simp only [Option.bind_some]
    cases hc : (g.fNodes.any fun x => decide (formIx L x.fClass < 0)) with
    | true =>
      refine ⟨fun h => (by cases h), fun h => ?_⟩
      obtain ⟨x, hx, h2⟩ := List.any_eq_true.1 hc
      exact absurd (of_decide_eq_true h2) (h.cl x hx)
    | false =>
      have hc' : ∀ x ∈ g.fNodes, decide (formIx L x.fClass < 0) = false := fun x hx => by
        have := List.any_eq_false.1 hc x hx
        simpa using this
      simp only [cond_false]
      rw [f71_eq hz hg hn (formed_vals hf) hc']
      simp only [Option.bind_some, f50_eq]
      cases ha : g.fNodes.all (nodeB L g) with
      | false =>
        refine ⟨fun h => (by cases h), fun h => ?_⟩
        have : g.fNodes.all (nodeB L g) = true := List.all_eq_true.2 fun x hx => (nodeB_iff (h.cl x hx)).2 ⟨h.ln x hx, h.su x hx⟩
        rw [this] at ha; cases ha
      | true =>
        refine ⟨fun _ => ⟨(formedR_iff g).1 hf0, fun x hx => of_decide_eq_false (hc' x hx), fun x hx => ?_, fun x hx => ?_⟩, fun _ => rfl⟩
        · exact ((nodeB_iff (of_decide_eq_false (hc' x hx))).1 (List.all_eq_true.1 ha x hx)).1
        · exact ((nodeB_iff (of_decide_eq_false (hc' x hx))).1 (List.all_eq_true.1 ha x hx)).2
theorem nodeMk_inl {A B : List Form} {L : List Rule} {g : Graph} {k : Nat} {y : Node} (h : nodeMk A B L g k = .inl y) : ∃ x v, g.fNodes[k]? = some x ∧ rowMk A B L x = .inl v ∧ y = ⟨(ruleAt L x.fClass).fTo, v⟩ := by
  unfold nodeMk at h
  cases hx : g.fNodes[k]? with
  | none => rw [hx] at h; cases h
  | some x =>
    rw [hx] at h
    have h : (rowMk A B L x).elim (fun v => (.inl ⟨(ruleAt L x.fClass).fTo, v⟩ : Node ⊕ Refusal)) (fun s => .inr ⟨k, s⟩) = .inl y := h
    cases hv : rowMk A B L x with
    | inr s => rw [hv] at h; cases h
    | inl v => rw [hv] at h; cases h; exact ⟨x, v, rfl, hv, rfl⟩
theorem valMk_inl {A B : List Form} {L : List Rule} {x : Node} {k : Nat} {w : Val} (h : valMk A B L x k = .inl w) : ∃ c g, (formAt B (ruleAt L x.fClass).fTo).fCols[k]? = some c ∧ (ruleAt L x.fClass).fGives[k]? = some g ∧
    (madeB g (formAt A x.fClass).fCols x.fVals c).2 = true ∧ w = (madeB g (formAt A x.fClass).fCols x.fVals c).1 := by
  unfold valMk at h
  cases hc : (formAt B (ruleAt L x.fClass).fTo).fCols[k]? with
  | none => rw [hc] at h; cases h
  | some c =>
    cases hg : (ruleAt L x.fClass).fGives[k]? with
    | none => rw [hc, hg] at h; cases h
    | some g =>
      rw [hc, hg] at h
      have h : (bif (madeB g (formAt A x.fClass).fCols x.fVals c).2 then (.inl (madeB g (formAt A x.fClass).fCols x.fVals c).1 : Val ⊕ ByteArray) else .inr c.fName) = .inl w := h
      cases h2 : (madeB g (formAt A x.fClass).fCols x.fVals c).2 with
      | false => rw [h2] at h; cases h
      | true => rw [h2] at h; cases h; exact ⟨c, g, rfl, rfl, h2, rfl⟩
theorem valB_ref {i : Int} {l : List Node} (hl : l.length ≤ 400) (h : valB ⟨4, i⟩ (len l) = true) : ∃ k : Nat, i = k ∧ k < l.length := by
  have h : inR i 0 (wr .i64 (len l - 1)) = true := h
  unfold inR len at h
  rw [wr_id (by omega) (by omega)] at h
  simp only [Bool.and_eq_true, decide_eq_true_eq] at h
  exact ⟨i.toNat, by omega, by omega⟩
theorem keepG {A B : List Form} {L : List Rule} {g : Graph} {ns : List Node} (hA : FormsOk A) (hB : FormsOk B) (hr : rulesE A B L = 0) (hg : GoodG A g) (hf : fin (nodeMk A B L g) g.fNodes.length 0 [] = .inl ns) : GoodG B ⟨ns, g.fRoots⟩ := by
  obtain ⟨t, e, hlen, hmk⟩ := fin_get _ _ _ _ hf
  have e : ns = t := by simpa using e
  subst e
  have hna := noAny_of hA (rulesE_zero hr).1
  have hll : len ns = len g.fNodes := by unfold len; omega
  have hcls : ∀ i, valB ⟨4, i⟩ (len g.fNodes) = true → clsAt ns i = (ruleAt L (clsAt g.fNodes i)).fTo := fun i hi => by
    obtain ⟨k, rfl, hk⟩ := valB_ref hg.fr.1.1 hi
    have hk2 : k < ns.length := by omega
    have hm := hmk k _ (List.getElem?_eq_getElem hk2)
    rw [Nat.zero_add] at hm
    obtain ⟨x, v, h1, h2, h3⟩ := nodeMk_inl hm
    unfold clsAt
    rw [gi_nat, gi_nat, h1, List.getElem?_eq_getElem hk2, h3]
    rfl
  have one : ∀ y ∈ ns, ∃ x v, x ∈ g.fNodes ∧ rowMk A B L x = .inl v ∧ y = ⟨(ruleAt L x.fClass).fTo, v⟩ := fun y hy => by
    obtain ⟨k, hk⟩ := List.getElem?_of_mem hy
    have hm := hmk k _ hk
    rw [Nat.zero_add] at hm
    obtain ⟨x, v, h1, h2, h3⟩ := nodeMk_inl hm
    exact ⟨x, v, List.mem_of_getElem? h1, h2, h3⟩
  have row : ∀ x v, x ∈ g.fNodes → rowMk A B L x = .inl v → v.length = (formAt B (ruleAt L x.fClass).fTo).fCols.length ∧ ∀ (j : Nat) c w, (formAt B (ruleAt L x.fClass).fTo).fCols[j]? = some c → v[j]? = some w → valB w (len g.fNodes) = true ∧ suitsC (clsAt ns) c w = true := fun x v hx hv => by
    obtain ⟨u, e, hl, hm⟩ := fin_get _ _ _ _ hv
    have e : v = u := by simpa using e
    subst e
    refine ⟨hl, fun j c w hc hw => ?_⟩
    have hm := hm j w hw
    rw [Nat.zero_add] at hm
    obtain ⟨c', gv, h1, h2, h3, h4⟩ := valMk_inl hm
    rw [h1] at hc
    cases hc
    have ro := ruleOk_of hr (hg.cl x hx)
    obtain ⟨j1, j1'⟩ := List.getElem?_eq_some_iff.1 h2
    obtain ⟨j2, j2'⟩ := List.getElem?_eq_some_iff.1 h1
    have hgv := ro.gv j j1 j2
    rw [j1', j2'] at hgv
    rw [h4]
    refine valKeep hna hcls hgv (hg.ln x hx) (fun a ha => (hA.col (formAt_gi (hg.cl x hx)).2.1 ha).2.1) (fun i a v ha hv => ⟨hg.fr.2.2.1 x hx v (List.mem_of_getElem? hv), hg.su x hx i a v ha hv⟩) h3
  refine ⟨⟨⟨by show ns.length ≤ 400; have := hg.fr.1.1; omega, hg.fr.1.2⟩, fun y hy => ?_, fun y hy w hw => ?_, fun v hv => ?_⟩, fun y hy => ?_, fun y hy => ?_, fun y hy j c w hc hw => ?_⟩
  · obtain ⟨x, v, h1, h2, rfl⟩ := one y hy
    show v.length ≤ 30
    rw [(row x v h1 h2).1]
    exact hB.cl _ (formAt_gi (ruleOk_of hr (hg.cl x h1)).to).2.1
  · obtain ⟨x, v, h1, h2, rfl⟩ := one y hy
    obtain ⟨j, hj⟩ := List.getElem?_of_mem hw
    have hj' := (List.getElem?_eq_some_iff.1 hj).1
    have hr2 := row x v h1 h2
    show valB w (len ns) = true
    rw [hll]
    exact (hr2.2 j _ w (List.getElem?_eq_getElem (by have : v.length = _ := hr2.1; have hj' : j < v.length := hj'; omega)) hj).1
  · show valB v (len ns) = true ∧ _
    rw [hll]
    exact hg.fr.2.2.2 v hv
  · obtain ⟨x, v, h1, h2, rfl⟩ := one y hy
    exact (ruleOk_of hr (hg.cl x h1)).to
  · obtain ⟨x, v, h1, h2, rfl⟩ := one y hy
    exact (row x v h1 h2).1
  · obtain ⟨x, v, h1, h2, rfl⟩ := one y hy
    exact ((row x v h1 h2).2 j c w hc hw).2
end Go.Proofs
end
section
set_option linter.unusedVariables false
set_option linter.unusedSimpArgs false
namespace Go.Proofs
open Go.Vm
theorem inR_iff (x lo hi : Int) : inR x lo hi = true ↔ lo ≤ x ∧ x ≤ hi := by unfold inR; simp
section
variable {L M N : List Rule}
theorem joinFit {h g : Give} {a b c : Col} (hh : inR h.fHow 1 7 = true) (hg : inR g.fHow 1 5 = true) (h1 : numdB h b = true) (h2 : numdB g c = true) (f1 : fitsB L h a b = true) (f2 : fitsB M g b c = true)
    (hl : leadsB L a.fClass b.fClass = true → leadsB M b.fClass c.fClass = true → leadsB N a.fClass c.fClass = true) (hok : (joinB h g).2 = true) :
    inR (joinB h g).1.fHow 1 7 = true ∧ inR (joinB h g).1.fHow 1 5 = inR h.fHow 1 5 ∧ (joinB h g).1.fFrom = h.fFrom ∧ numdB (joinB h g).1 c = true ∧ fitsB N (joinB h g).1 a c = true := by
  obtain ⟨hf, hw, hn⟩ := h
  obtain ⟨gf, gw, gn⟩ := g
  have c1 : hw = 1 ∨ hw = 2 ∨ hw = 3 ∨ hw = 4 ∨ hw = 5 ∨ hw = 6 ∨ hw = 7 := inR17 hh
  have c2 : gw = 1 ∨ gw = 2 ∨ gw = 3 ∨ gw = 4 ∨ gw = 5 := by
    have : inR gw 1 5 = true := hg
    rw [inR_iff] at this
    omega
  obtain ⟨an, ak, ac⟩ := a
  obtain ⟨bn, bk, bc⟩ := b
  obtain ⟨cn, ck, cc⟩ := c
  unfold fitsB at f1 f2 ⊢
  generalize leadsB L ac bc = l1 at *
  generalize leadsB M bc cc = l2 at *
  generalize leadsB N ac cc = l3 at *
  rcases c1 with rfl | rfl | rfl | rfl | rfl | rfl | rfl <;> rcases c2 with rfl | rfl | rfl | rfl | rfl <;>
    (simp [joinB, numdB, cond_eq_ite, inR, mnI] at * <;> grind)
def mk0 (g : Give) (x : Val) (c : Col) : Val × Bool :=
  bif g.fHow == 6 then (bif c.fKind == 2 then (⟨2, g.fN⟩, true) else (⟨1, g.fN⟩, true)) else bif g.fHow == 7 then (⟨3, 0⟩, true) else
  bif g.fHow == 2 then (⟨1, x.fN⟩, true) else bif g.fHow == 3 then (⟨2, x.fN⟩, inR x.fN 0 1) else bif g.fHow == 4 then (x, decide (x.fN < g.fN)) else
  bif g.fHow == 5 then (x, x.fKind == 4) else (x, true)
theorem madeB_mk0 (g : Give) (cols : List Col) (vals : List Val) (c : Col) : madeB g cols vals c = mk0 g ((gi vals (colIx cols g.fFrom)).getD noV) c := rfl
end
end Go.Proofs
end
section
set_option linter.unusedVariables false
namespace Go.Proofs
open Go.Vm
structure TwoOk (n : Nat) (r q : Rule) (f : Form) : Prop where
  rl : r.fGives.length = f.fCols.length
  cn : f.fCols.length < n
  qn : q.fGives.length < n
  rw_ : ∀ h ∈ r.fGives, inR h.fHow 1 7 = true
  qw : ∀ g ∈ q.fGives, inR g.fHow 1 7 = true ∧ (inR g.fHow 1 5 = true → ¬ colIx f.fCols g.fFrom < 0) ∧ (inR g.fHow 1 5 = false → sEqF g.fFrom noS = true)
  cs : ∀ c ∈ f.fCols, sEqF c.fName noS = false
def giveJ (r q : Rule) (f : Form) (k : Nat) : Give ⊕ Unit := match q.fGives[k]? with
  | some g => bif inR g.fHow 1 5 then (match gi r.fGives (colIx f.fCols g.fFrom) with
    | some h => bif (joinB h g).2 then .inl (joinB h g).1 else .inr ()
    | none => .inr ()) else .inl g
  | none => .inr ()
def givesJ (r q : Rule) (f : Form) : List Give ⊕ Unit := fin (giveJ r q f) q.fGives.length 0 []
def askP (r q : Rule) (f : Form) (k : Nat) : Bool := match r.fGives[k]?, f.fCols[k]? with
  | some h, some c => asksB h && !usesB q.fGives c.fName
  | _, _ => false
def askBad (r q : Rule) (f : Form) : Bool := anyN (askP r q f) r.fGives.length 0
section
variable {n : Nat} {r q : Rule} {f : Form}
end
end Go.Proofs
end
section
set_option linter.unusedVariables false
set_option linter.unusedSimpArgs false
namespace Go.Vm
structure Bulk {H : Type} (β : DataW H → Nat) : Prop where
  str : ∀ l, l.length ≤ β (.lit (.string l))
  sl : ∀ es sp, es.length ≤ β (.slice es sp)
  slm : ∀ es sp d, d ∈ es → β d ≤ β (.slice es sp)
  agm : ∀ ps d, d ∈ ps → β d ≤ β (.agg ps)
section
variable {H : Type} {enc : TypeId × Value → H} {P : Program} {w : World} {β : DataW H → Nat} {B : Nat}
def contF (P : Program) : Nat → List Field → Bool
  | _, [] => true
  | off, f :: fs => f.offset == off && contF P (off + P.cellsOf f.type) fs
def layB (P : Program) : Nat → TypeId → Bool
  | 0, _ => false
  | n + 1, t => match P.underlying t with
    | some .bool | some (.int _) | some .string => P.cellsOf t == 1
    | some (.slice e) => P.cellsOf t == 1 && layB P n e
    | some (.struct fs) => contF P 0 fs.toList && (fs.toList.map fun f => P.cellsOf f.type).sum == P.cellsOf t && fs.toList.all fun f => layB P n f.type
    | _ => false
def fitsD (P : Program) (B : Nat) : Nat → TypeId → List AV → Prop
  | 0, _, _ => False
  | n + 1, t, az => match P.underlying t with
    | some .bool => ∃ b, az = [.val (.bool b)]
    | some (.int k) => ∃ m, az = [.val (.int k m)] ∧ (Lit.int k m).wf = true
    | some .string => ∃ s : ByteArray, az = [.val (.string s)] ∧ s.size ≤ B
    | some (.slice e) => ∃ xs, az = [.sl xs] ∧ xs.length ≤ B ∧ ∀ cs ∈ xs, fitsD P B n e cs
    | some (.struct fs) => ∃ parts : List (List AV), az = parts.flatten ∧ parts.length = fs.toList.length ∧ ∀ (i : Nat) f p, fs.toList[i]? = some f → parts[i]? = some p → fitsD P B n f.type p
    | _ => False
def Cells (w : World) (az : List AV) (cs : List Value) : Prop := az.length = cs.length ∧ ∀ (i : Nat) a u, az[i]? = some a → cs[i]? = some u → RepP w (fun _ b => b < w.heap.size) a u
theorem Cells.one {a : AV} {u : Value} (h : RepP w (fun _ b => b < w.heap.size) a u) : Cells w [a] [u] := ⟨rfl, fun i b v hb hv => by
  cases i with
  | zero => simp at hb hv; subst hb hv; exact h
  | succ i => simp at hb⟩
theorem Cells.append {az bs : List AV} {cs ds : List Value} (h : Cells w az cs) (k : Cells w bs ds) : Cells w (az ++ bs) (cs ++ ds) := ⟨by simp [h.1, k.1], fun i a u ha hu => by
  rw [List.getElem?_append] at ha hu
  rw [← h.1] at hu
  split at ha
  · rename_i hlt; rw [if_pos hlt] at hu; exact h.2 i a u ha hu
  · rename_i hlt; rw [if_neg hlt] at hu; exact k.2 _ a u ha hu⟩
theorem mapM_cons_some {α β : Type} {f : α → Option β} {x : α} {l : List α} {r : List β} (h : (x :: l).mapM f = some r) : ∃ b r', f x = some b ∧ l.mapM f = some r' ∧ r = b :: r' := by
  simp only [List.mapM_cons, Option.bind_eq_bind, Option.bind_eq_some_iff, Option.pure_def, Option.some.injEq] at h
  obtain ⟨b, h1, r', h2, h3⟩ := h
  exact ⟨b, r', h1, h2, h3.symm⟩
theorem fields_cells {n : Nat} {spare : Nat → Bool} {held : Bool} {fuel : Nat} {base : Nat}
    (ih : ∀ (t : TypeId) (cs : List Value) (d : DataW H) (ps : List MemPlace), layB P n t = true → DataW.trod enc P w base spare held fuel t cs = some (d, ps) → β d ≤ B → ∃ az, Cells w az cs ∧ fitsD P B n t az) :
    ∀ (fs : List Field) (off : Nat) (cs : List Value) (xs : List (DataW H × List MemPlace)), contF P off fs = true → (fs.all fun f => layB P n f.type) = true → off + (fs.map fun f => P.cellsOf f.type).sum = cs.length →
      (fs.mapM fun f => DataW.trod enc P w base spare held fuel f.type ((cs.drop f.offset).take (P.cellsOf f.type))) = some xs → (∀ x ∈ xs, β x.1 ≤ B) →
      ∃ parts : List (List AV), Cells w parts.flatten (cs.drop off) ∧ parts.length = fs.length ∧ ∀ (i : Nat) f p, fs[i]? = some f → parts[i]? = some p → fitsD P B n f.type p
  | [], off, cs, xs, _, _, hl, h, _ => by
    simp at hl
    subst hl
    exact ⟨[], ⟨by simp, fun i a u ha => by simp at ha⟩, rfl, fun i f p hf => by simp at hf⟩
  | f :: fs, off, cs, xs, hc, hy, hl, h, hx => by
    obtain ⟨b, r', h1, h2, rfl⟩ := mapM_cons_some h
    simp only [contF, Bool.and_eq_true, beq_iff_eq] at hc
    simp only [List.all_cons, Bool.and_eq_true] at hy
    simp only [List.map_cons, List.sum_cons] at hl
    obtain ⟨az, ha, hfa⟩ := ih f.type _ b.1 b.2 hy.1 h1 (hx b (by simp))
    obtain ⟨parts, hp, hpl, hpf⟩ := fields_cells ih fs (off + P.cellsOf f.type) cs r' hc.2 hy.2 (by omega) h2 (fun x h => hx x (by simp [h]))
    refine ⟨az :: parts, ?_, by simp [hpl], fun i g p hg hp' => ?_⟩
    · rw [hc.1] at ha
      have e : cs.drop off = (cs.drop off).take (P.cellsOf f.type) ++ cs.drop (off + P.cellsOf f.type) := by
        rw [← List.drop_drop, List.take_append_drop]
      rw [e, List.flatten_cons]
      exact ha.append hp
    · cases i with
      | zero => simp at hg hp'; subst hg hp'; exact hfa
      | succ i => simp at hg hp'; exact hpf i g p hg hp'
theorem cell_in {a : Addr} {u : Value} (h : w.cell? a = some u) : a.block < w.heap.size := by
  unfold World.cell? at h
  split at h
  · rename_i hb; exact (Array.getElem?_eq_some_iff.1 hb).1
  · cases h
theorem rows_cells {n : Nat} {e : TypeId} {base : Nat} {a : Addr} {f : List Value → Option (DataW H × List MemPlace)}
    (ih : ∀ (cs : List Value) (d : DataW H) (ps : List MemPlace), f cs = some (d, ps) → β d ≤ B → ∃ az, Cells w az cs ∧ fitsD P B n e az) :
    ∀ (len : Nat) (elems : List (DataW H × List MemPlace)), ((List.range len).mapM fun i => (w.cells? base (a.add (i * P.cellsOf e)) (P.cellsOf e)).bind f) = some elems → (∀ x ∈ elems, β x.1 ≤ B) →
      ∃ xs : List (List AV), xs.length = len ∧ ∀ (j : Nat) cs, xs[j]? = some cs → cs.length = P.cellsOf e ∧ fitsD P B n e cs ∧ ∀ (i : Nat) b, cs[i]? = some b → ∃ u, w.cell? (a.add (j * P.cellsOf e + i)) = some u ∧ RepP w (fun _ b => b < w.heap.size) b u := by
  intro len elems hel hB
  obtain ⟨m1, m2⟩ := mapM_some hel
  have row : ∀ j, j < len → ∃ cs : List AV, cs.length = P.cellsOf e ∧ fitsD P B n e cs ∧ ∀ (i : Nat) b, cs[i]? = some b → ∃ u, w.cell? (a.add (j * P.cellsOf e + i)) = some u ∧ RepP w (fun _ b => b < w.heap.size) b u := fun j hj => by
    obtain ⟨r, hrj, hr⟩ := m2 j j (List.getElem?_range hj)
    have hrB := hB r (List.mem_of_getElem? hrj)
    simp only [Option.bind_eq_some_iff] at hr
    obtain ⟨ecs, h1, h2⟩ := hr
    obtain ⟨az, hc, hf⟩ := ih ecs r.1 r.2 h2 hrB
    unfold World.cells? at h1
    split at h1
    · obtain ⟨k1, k2⟩ := mapM_some h1
      simp only [List.length_range] at k1
      refine ⟨az, by rw [hc.1, k1], hf, fun i b hb => ?_⟩
      have hi : i < P.cellsOf e := by rw [← k1, ← hc.1]; exact (List.getElem?_eq_some_iff.1 hb).1
      obtain ⟨u, hu1, hu2⟩ := k2 i i (List.getElem?_range hi)
      rw [add_add] at hu2
      exact ⟨u, hu2, hc.2 i b u hb hu1⟩
    · cases h1
  refine ⟨(List.range len).map (fun j => if h : j < len then Classical.choose (row j h) else []), by simp, fun j cs hj => ?_⟩
  rw [List.getElem?_map] at hj
  have hlt : j < len := by
    by_cases h : j < len
    · exact h
    · rw [List.getElem?_eq_none (by simpa using Nat.le_of_not_lt h)] at hj; cases hj
  rw [List.getElem?_range hlt] at hj
  simp only [Option.map_some, Option.some.injEq, dif_pos hlt] at hj
  subst hj
  exact Classical.choose_spec (row j hlt)
theorem trod_cells (hβ : Bulk β) {spare : Nat → Bool} {held : Bool} {base : Nat} : ∀ (n fuel : Nat) (t : TypeId) (cs : List Value) (d : DataW H) (ps : List MemPlace), layB P n t = true → DataW.trod enc P w base spare held fuel t cs = some (d, ps) → β d ≤ B → ∃ az, Cells w az cs ∧ fitsD P B n t az
  | 0, fuel, t, cs, d, ps, hl, h, _ => by simp [layB] at hl
  | n + 1, 0, t, cs, d, ps, hl, h, _ => by simp [DataW.trod] at h
  | n + 1, fuel + 1, t, cs, d, ps, hl, h, hd => by
    unfold layB at hl
    unfold DataW.trod at h
    unfold fitsD
    split at hl
    · rename_i hu
      simp only [hu] at h ⊢
      rcases cs with _ | ⟨v, _ | ⟨v2, r⟩⟩
      · simp at h
      · cases v <;> simp at h
        exact ⟨_, Cells.one (.val _), _, rfl⟩
      · simp at h
    · rename_i k hu
      simp only [hu] at h ⊢
      rcases cs with _ | ⟨v, _ | ⟨v2, r⟩⟩
      · simp at h
      · cases v <;> simp at h
        obtain ⟨⟨rfl, h1⟩, _⟩ := h
        exact ⟨_, Cells.one (.val _), _, rfl, h1⟩
      · simp at h
    · rename_i hu
      simp only [hu] at h ⊢
      rcases cs with _ | ⟨v, _ | ⟨v2, r⟩⟩
      · simp at h
      · cases v <;> simp at h
        obtain ⟨h0, rfl, _⟩ := h
        refine ⟨_, Cells.one (.val _), _, rfl, ?_⟩
        have := hβ.str (ByteArray.data ‹ByteArray›).toList
        simp only [Array.length_toList] at this
        exact Nat.le_trans this hd
      · simp at h
    · rename_i e hu
      simp only [Bool.and_eq_true, beq_iff_eq] at hl
      simp only [hu] at h ⊢
      rcases cs with _ | ⟨v, _ | ⟨v2, r⟩⟩
      · simp at h
      · cases v <;> try (simp at h; done)
        rename_i A len cap
        cases A with
        | none =>
          refine ⟨[.sl []], Cells.one ?_, [], rfl, Nat.zero_le _, fun cs hcs => by cases hcs⟩
          have : len = 0 ∧ cap = 0 := by
            cases len <;> cases cap <;> simp at h ⊢
          obtain ⟨rfl, rfl⟩ := this
          exact .sl [] none 0 0 (fun _ _ => undef) (Nat.le_refl _) (Nat.zero_le _) (fun _ => rfl) (fun j cs hj => by simp at hj) (fun j cs i a hj => by simp at hj) (fun j cs i a hj => by simp at hj)
        | some a =>
          simp only at h
          split at h
          · rename_i hcond
            simp only [Option.bind_eq_some_iff, Option.map_eq_some_iff] at h
            obtain ⟨elems, hel, rest, _, hdd⟩ := h
            simp only [Prod.mk.injEq] at hdd
            obtain ⟨rfl, _⟩ := hdd
            have hlen := Nat.le_trans (hβ.sl _ _) hd
            have hme : ∀ x ∈ elems, β x.1 ≤ B := fun x hx => Nat.le_trans (hβ.slm _ _ x.1 (List.mem_map_of_mem hx)) hd
            have hell := (mapM_some hel).1
            simp only [List.length_range] at hell
            simp only [List.length_map, hell] at hlen
            obtain ⟨xs, hxl, hx⟩ := rows_cells (w := w) (a := a) (fun cs d ps hd hb => trod_cells hβ n fuel e cs d ps hl.2 hd hb) len elems hel hme
            refine ⟨[.sl xs], Cells.one ?_, xs, rfl, by omega, fun cs hcs => ?_⟩
            · rw [← hxl]
              refine .sl xs (some a) cap (P.cellsOf e) (fun j i => (w.cell? (a.add (j * P.cellsOf e + i))).getD undef) (by omega) hcond.2.2 (fun e => by cases e) (fun j cs hj => (hx j cs hj).1) (fun j cs i b hj hi => ?_) (fun j cs i b hj hi => ?_)
              · obtain ⟨u, hu1, hu2⟩ := (hx j cs hj).2.2 i b hi
                exact ⟨a, rfl, by have := cell_in hu1; rwa [add_block] at this, by rw [hu1]; rfl⟩
              · obtain ⟨u, hu1, hu2⟩ := (hx j cs hj).2.2 i b hi
                rw [hu1]; exact hu2
            · obtain ⟨j, hj, rfl⟩ := List.getElem_of_mem hcs
              exact (hx j _ (List.getElem?_eq_getElem hj)).2.1
          · cases h
      · simp at h
    · rename_i fs hu
      simp only [Bool.and_eq_true, beq_iff_eq] at hl
      simp only [hu] at h ⊢
      have h' : (if cs.length = P.cellsOf t then (fs.toList.mapM fun f => DataW.trod enc P w base spare held fuel f.type ((cs.drop f.offset).take (P.cellsOf f.type))).map fun xs => (DataW.agg (xs.map (·.1)), xs.flatMap (·.2)) else none) = some (d, ps) := h
      split at h'
      · rename_i hlen
        simp only [Option.map_eq_some_iff] at h'
        obtain ⟨xs, hxs, hdd⟩ := h'
        simp only [Prod.mk.injEq] at hdd
        obtain ⟨rfl, _⟩ := hdd
        have hme : ∀ x ∈ xs, β x.1 ≤ B := fun x hx => Nat.le_trans (hβ.agm _ x.1 (List.mem_map_of_mem hx)) hd
        obtain ⟨parts, k1, k2, k3⟩ := fields_cells (fun t cs d ps hy hd hb => trod_cells hβ n fuel t cs d ps hy hd hb) fs.toList 0 cs xs hl.1.1 hl.2 (by omega) hxs hme
        exact ⟨_, by simpa using k1, parts, rfl, k2, k3⟩
      · cases h'
    · cases hl
end
end Go.Vm
end
section
set_option linter.unusedVariables false
set_option linter.unusedSimpArgs false
namespace Go.Vm
open Go.RowKit Go.ChangeShapes Go
section
variable {H : Type} {enc : TypeId × Value → H} {P : Program} {W W' : World}
theorem trodAll_stays (hl : laidOutB P = true) {sp : Nat → Bool} : ∀ (ts : List TypeId) (vs : List Value) (ds : List (DataW H)) (ps : List MemPlace), (∀ t ∈ ts, P.readableRec t = true ∧ t < P.types.size) →
    DataW.TrodAll enc P W 0 (fun _ => true) true ts vs ds ps → Below W.heap.size W W' → (∀ x ∈ ps, x.block < W.heap.size) → (∀ x ∈ ps, sp x.block = true) → DataW.TrodAll enc P W' 0 sp true ts vs ds ps
  | [], [], [], ps, _, h, _, _, _ => h
  | t :: ts, v :: vs, d :: ds, ps, ht, h, hb, hlt, hsp => by
    obtain ⟨p, q, h1, h2, rfl⟩ := h
    refine ⟨p, q, WideElems.Trod_stays hl (ht t (by simp)).1 (ht t (by simp)).2 h1 (fun x hx => hb.same (hlt x (by simp [hx]))) (fun x hx => hsp x (by simp [hx])),
      trodAll_stays hl ts vs ds q (fun t' ht' => ht t' (by simp [ht'])) h2 hb (fun x hx => hlt x (by simp [hx])) (fun x hx => hsp x (by simp [hx])), rfl⟩
  | [], [], _ :: _, _, _, h, _, _, _ => h.elim
  | [], _ :: _, _, _, _, h, _, _, _ => h.elim
  | _ :: _, [], _, _, _, h, _, _, _ => h.elim
  | _ :: _, _ :: _, [], _, _, h, _, _, _ => h.elim
theorem law_post {f : Func} {s : ChangeSpec} {apart fresh handsOn again : Bool} {args : Array Value} {ds gs : List (DataW H)} {before : List MemPlace} {tb : TypeId} (hl : laidOutB P = true) (hparams : ∀ t ∈ f.params.toList, P.readableRec t = true ∧ t < P.types.size)
    (hrt : f.resultTypes = #[tb]) (hb : P.underlying tb = some .bool) (hvars : s.vars = []) (hfn : (s.fn H (ds ++ [])).results = [.lit (.bool true)] ∧ (s.fn H (ds ++ [])).args = ds ∧ (s.fn H (ds ++ [])).vars = [])
    (hW : DataW.Whole enc P f.params.toList s.vars apart W args.toList ds gs before) (hbel : Below W.heap.size W W') : s.post enc P f apart fresh handsOn again W args (.bool true) W' := by
  have hW' := hW
  obtain ⟨p, q, hA, hV, rfl, hfz, hnd⟩ := hW
  rw [hvars] at hV
  obtain ⟨rfl, rfl⟩ := trodVars_none hV
  have hlt : ∀ x ∈ p ++ [], x.block < W.heap.size := fun x hx => hW'.lt x hx
  simp only [List.append_nil] at hW' hlt hfn
  have hold : ∀ x ∈ p, (fun b => decide (b < W.heap.size)) x.block = true := fun x hx => by simpa using hlt x hx
  have hresB : ∀ (b : Nat) (sp : Nat → Bool) (hd : Bool), DataW.TrodAll enc P W' b sp hd f.resultTypes.toList ((Value.bool true).resultList f.resultTypes.size) (s.fn H ds).results [] := fun b sp hd => by
    rw [hfn.1, hrt]
    exact trodAll_cons_mk (shut_bool hb _) trodAll_mk0
  have hresA : ∀ sp : Nat → Bool, (∀ x ∈ p, sp x.block = true) → DataW.TrodAll enc P W' 0 sp true f.params.toList args.toList (s.fn H ds).args p := fun sp hsp => by
    rw [hfn.2.1]
    exact trodAll_stays hl _ _ _ _ hparams hA hbel hlt hsp
  have hvarsB : ∀ sp : Nat → Bool, DataW.TrodVars enc P W' sp s.vars (s.fn H ds).vars [] := fun sp => by
    rw [hfn.2.2, hvars]; rfl
  refine ⟨ds, [], p, [], p, [], hW', ?_, ?_, ?_, World.keptBut_mono (fun x hx => ⟨hx, ?_⟩) (hbel.frame _), fun _ => ?_⟩
  · simpa using hresB _ _ _
  · simpa using hresA _ hold
  · simpa using hvarsB _
  · simp [hx]
  · refine ⟨ok_one hrt rfl (okWide_bool_mk hb _), _, _, ([] ++ p) ++ [], ⟨[] ++ p, [], trodAll_append (hresA _ (fun _ _ => rfl)) (hresB _ _ _), by simpa using hvarsB _, rfl, ?_, ?_⟩, ?_⟩
    · intro b off hp
      have hp' : MemPlace.cell b off ∈ p := by simpa using hp
      have hb' : b < W.heap.size := hlt _ hp'
      rw [hbel.frozen hb']
      exact hfz b off (by simpa using hp')
    · intro ha
      have := hnd ha
      simpa using this
    · intro x hx _
      simpa using hx
end
end Go.Vm
end
section
set_option linter.unusedVariables false
set_option linter.unusedSimpArgs false
namespace Go.Vm
open Go.RowKit Go.ChangeShapes
section
variable {H : Type} {enc : TypeId × Value → H} {P : Program} {W W' : World} {β : DataW H → Nat} {B : Nat}
def argFits (P : Program) (B n : Nat) (t : TypeId) (a : AV) : Prop :=
  match P.underlying t with
  | some (.struct _) => ∃ az, a = .agg az ∧ fitsD P B n t az
  | _ => fitsD P B n t [a]
theorem arg_rep (hβ : Bulk β) {n base : Nat} {t : TypeId} {v : Value} {d : DataW H} {p : List MemPlace} (hl : layB P n t = true) (hok : Value.okWide P W .any base t v) (h : DataW.Trod enc P W 0 (fun _ => true) true t v d p) (hd : β d ≤ B) :
    ∃ a, argFits P B n t a ∧ RepP W (fun _ b => b < W.heap.size) a v := by
  obtain ⟨fuel, hf⟩ := h
  obtain ⟨az, hc, hfit⟩ := trod_cells hβ n fuel t v.cells.toList d p hl hf hd
  cases n with
  | zero => simp [layB] at hl
  | succ n =>
    have single : v.cells = #[v] → fitsD P B (n + 1) t az → (∀ x, az = [x] → argFits P B (n + 1) t x) → (∃ x, az = [x]) → ∃ a, argFits P B (n + 1) t a ∧ RepP W (fun _ b => b < W.heap.size) a v := fun hv hfit ha ⟨x, hx⟩ => by
      subst hx
      rw [hv] at hc
      exact ⟨x, ha x rfl, hc.2 0 x v rfl rfl⟩
    unfold layB at hl
    split at hl
    · rename_i hu
      have hv : v.cells = #[v] := by cases v <;> first | rfl | simp [Value.okWide, hu, Cell.okWide, Cell.ok] at hok
      have hfit' := hfit
      unfold fitsD at hfit'
      simp only [hu] at hfit'
      obtain ⟨b, rfl⟩ := hfit'
      exact single hv hfit (fun x hx => by unfold argFits; simp only [hu]; rw [← hx]; exact hfit) ⟨_, rfl⟩
    · rename_i k hu
      have hv : v.cells = #[v] := by cases v <;> first | rfl | simp [Value.okWide, hu, Cell.okWide, Cell.ok] at hok
      have hfit' := hfit
      unfold fitsD at hfit'
      simp only [hu] at hfit'
      obtain ⟨b, rfl, _⟩ := hfit'
      exact single hv hfit (fun x hx => by unfold argFits; simp only [hu]; rw [← hx]; exact hfit) ⟨_, rfl⟩
    · rename_i hu
      have hv : v.cells = #[v] := by cases v <;> first | rfl | simp [Value.okWide, hu, Cell.okWide, Cell.ok] at hok
      have hfit' := hfit
      unfold fitsD at hfit'
      simp only [hu] at hfit'
      obtain ⟨b, rfl, _⟩ := hfit'
      exact single hv hfit (fun x hx => by unfold argFits; simp only [hu]; rw [← hx]; exact hfit) ⟨_, rfl⟩
    · rename_i e hu
      have hv : v.cells = #[v] := by cases v <;> first | rfl | simp [Value.okWide, hu, Cell.okWide, Cell.ok] at hok
      have hfit' := hfit
      unfold fitsD at hfit'
      simp only [hu] at hfit'
      obtain ⟨b, rfl, _⟩ := hfit'
      exact single hv hfit (fun x hx => by unfold argFits; simp only [hu]; rw [← hx]; exact hfit) ⟨_, rfl⟩
    · rename_i fs hu
      have hv : ∃ cs, v = .agg cs := by
        simp only [Value.okWide, hu] at hok
        obtain ⟨cs, h1, _⟩ := hok
        exact ⟨cs, h1⟩
      obtain ⟨cs, rfl⟩ := hv
      refine ⟨.agg az, by unfold argFits; simp only [hu]; exact ⟨az, rfl, hfit⟩, ?_⟩
      have := RepP.agg (w := W) (I := fun _ b => b < W.heap.size) az cs.toList (by simpa [Value.cells] using hc.1) (fun i a u ha hu => hc.2 i a u ha (by simpa [Value.cells] using hu))
      simpa using this
    · cases hl
def argsFit (P : Program) (B n : Nat) : List TypeId → List AV → Prop
  | [], [] => True
  | t :: ts, a :: az => argFits P B n t a ∧ argsFit P B n ts az
  | _, _ => False
theorem args_rep (hβ : Bulk β) {n base : Nat} : ∀ (ts : List TypeId) (vs : List Value) (ds : List (DataW H)) (ps : List MemPlace), (∀ t ∈ ts, layB P n t = true) → (∀ (j : Nat) t v, ts[j]? = some t → vs[j]? = some v → Value.okWide P W .any base t v) →
    DataW.TrodAll enc P W 0 (fun _ => true) true ts vs ds ps → (∀ d ∈ ds, β d ≤ B) → ∃ az, argsFit P B n ts az ∧ vs.length = az.length ∧ ∀ (i : Nat) a v, az[i]? = some a → vs[i]? = some v → RepP W (fun _ b => b < W.heap.size) a v
  | [], [], [], ps, _, _, h, _ => ⟨[], trivial, rfl, fun i a v ha => by simp at ha⟩
  | t :: ts, v :: vs, d :: ds, ps, hl, hok, h, hb => by
    obtain ⟨p, q, h1, h2, rfl⟩ := h
    obtain ⟨a, ha, hr⟩ := arg_rep hβ (hl t (by simp)) (hok 0 t v rfl rfl) h1 (hb d (by simp))
    obtain ⟨az, k1, k2, k3⟩ := args_rep hβ ts vs ds q (fun t' ht => hl t' (by simp [ht])) (fun j t' v' ht hv => hok (j + 1) t' v' (by simpa using ht) (by simpa using hv)) h2 (fun d hd => hb d (by simp [hd]))
    refine ⟨a :: az, ⟨ha, k1⟩, by simp [k2], fun i b u hb hu => ?_⟩
    cases i with
    | zero => simp at hb hu; subst hb hu; exact hr
    | succ i => simp at hb hu; exact k3 i b u hb hu
  | [], [], _ :: _, _, _, _, h, _ => h.elim
  | [], _ :: _, _, _, _, _, h, _ => h.elim
  | _ :: _, [], _, _, _, _, h, _ => h.elim
  | _ :: _, _ :: _, [], _, _, _, h, _ => h.elim
theorem law_contract (hβ : Bulk β) {f : Nat} {fn : Func} {c : Code} {s : ChangeSpec} {apart fresh handsOn again : Bool} {args : Array Value} {ds gs : List (DataW H)} {before : List MemPlace} {tb n base : Nat}
    (hf : P.funcs[f]? = some fn) (hn : (fn.name == "runtime.NumGoroutine") = false) (hbody : fn.body = some c)
    (hlay : ∀ t ∈ fn.params.toList, layB P n t = true) (hP : ∀ az, argsFit P B n fn.params.toList az → PureSpec P f az (.val (.bool true)))
    (hl : laidOutB P = true) (hparams : ∀ t ∈ fn.params.toList, P.readableRec t = true ∧ t < P.types.size) (hrt : fn.resultTypes = #[tb]) (hb : P.underlying tb = some .bool) (hvars : s.vars = [])
    (hfn : (s.fn H (ds ++ [])).results = [.lit (.bool true)] ∧ (s.fn H (ds ++ [])).args = ds ∧ (s.fn H (ds ++ [])).vars = [])
    (hval : ∀ (j : Nat) t v, fn.params[j]? = some t → args[j]? = some v → Value.okWide P W .any base t v)
    (hW : DataW.Whole enc P fn.params.toList s.vars apart W args.toList ds gs before) (hds : ∀ d ∈ ds, β d ≤ B) : Calls P f args W fun e W' => ∃ v, e = .returned v ∧ s.post enc P fn apart fresh handsOn again W args v W' := by
  obtain ⟨p, q, hA, _⟩ := id hW
  obtain ⟨az, k1, k2, k3⟩ := args_rep hβ (base := base) fn.params.toList args.toList ds p hlay (fun j t v ht hv => hval j t v (by simpa using ht) (by simpa using hv)) hA hds
  have hc := hP az k1 W (fun _ _ => True) args.toList k2 (fun i a v ha hv => (k3 i a v ha hv).mono (fun _ b hb => ⟨⟨trivial, hb⟩, rfl⟩))
  have hr : (callFunc f args).run P W = .ok (.enter f args) W := by
    have hn' : ¬ fn.name = "runtime.NumGoroutine" := by simpa using hn
    simp [callFunc, hf, hn', hbody]
  simp only [Array.toArray_toList] at hc
  unfold CallsX at hc
  rw [hr] at hc
  refine Calls.mono hc (fun e W' h => ?_)
  obtain ⟨v, rfl, h1, h2⟩ := h
  have hv : v = .bool true := by cases h1; rfl
  subst hv
  exact ⟨_, rfl, law_post hl hparams hrt hb hvars hfn hW h2⟩
end
end Go.Vm
end
section
set_option linter.unusedVariables false
set_option linter.unusedSimpArgs false
namespace Go.Vm
section
variable {P : Program} {B n : Nat} {t : TypeId} {az : List AV}
theorem fits_int {k : IntKind} (hu : P.underlying t = some (.int k)) (h : fitsD P B n t az) : ∃ m, az = [.val (.int k m)] ∧ (Lit.int k m).wf = true := by
  cases n with
  | zero => exact h.elim
  | succ n => unfold fitsD at h; simp only [hu] at h; exact h
theorem fits_str (hu : P.underlying t = some .string) (h : fitsD P B n t az) : ∃ s : ByteArray, az = [.val (.string s)] ∧ s.size ≤ B := by
  cases n with
  | zero => exact h.elim
  | succ n => unfold fitsD at h; simp only [hu] at h; exact h
theorem fits_slice {e : TypeId} (hu : P.underlying t = some (.slice e)) (h : fitsD P B n t az) : ∃ xs m, az = [.sl xs] ∧ xs.length ≤ B ∧ ∀ cs ∈ xs, fitsD P B m e cs := by
  cases n with
  | zero => exact h.elim
  | succ n => unfold fitsD at h; simp only [hu] at h; obtain ⟨xs, h1, h2, h3⟩ := h; exact ⟨xs, n, h1, h2, h3⟩
theorem fits_struct {fs : Array Field} (hu : P.underlying t = some (.struct fs)) (h : fitsD P B n t az) :
    ∃ (parts : List (List AV)) (m : Nat), az = parts.flatten ∧ parts.length = fs.toList.length ∧ ∀ (i : Nat) f p, fs.toList[i]? = some f → parts[i]? = some p → fitsD P B m f.type p := by
  cases n with
  | zero => exact h.elim
  | succ n => unfold fitsD at h; simp only [hu] at h; obtain ⟨parts, h1, h2, h3⟩ := h; exact ⟨parts, n, h1, h2, h3⟩
theorem fits_types {ts : List TypeId} (h : fitsD P B n t az) (hu : P.underlying t = some (.struct (P.fieldsOf t))) (hm : (P.fieldsOf t).toList.map (·.type) = ts) :
    ∃ (parts : List (List AV)) (m : Nat), az = parts.flatten ∧ parts.length = ts.length ∧ ∀ (i : Nat) u p, ts[i]? = some u → parts[i]? = some p → fitsD P B m u p := by
  obtain ⟨parts, m, h1, h2, h3⟩ := fits_struct hu h
  subst hm
  refine ⟨parts, m, h1, by simpa using h2, fun i u p hu hp => ?_⟩
  rw [List.getElem?_map] at hu
  obtain ⟨f, hf, rfl⟩ := Option.map_eq_some_iff.1 hu
  exact h3 i f p hf hp
theorem fits_two (t1 t2 : TypeId) (h : fitsD P B n t az) (hu : P.underlying t = some (.struct (P.fieldsOf t)) := by kernel_rfl) (hm : (P.fieldsOf t).toList.map (·.type) = [t1, t2] := by kernel_rfl) :
    ∃ p q m, az = p ++ q ∧ fitsD P B m t1 p ∧ fitsD P B m t2 q := by
  obtain ⟨parts, m, h1, h2, h3⟩ := fits_types h hu hm
  match parts, h2 with
  | [p, q], _ => exact ⟨p, q, m, by simpa using h1, h3 0 t1 p rfl rfl, h3 1 t2 q rfl rfl⟩
theorem fits_three (t1 t2 t3 : TypeId) (h : fitsD P B n t az) (hu : P.underlying t = some (.struct (P.fieldsOf t)) := by kernel_rfl) (hm : (P.fieldsOf t).toList.map (·.type) = [t1, t2, t3] := by kernel_rfl) :
    ∃ p q r m, az = p ++ q ++ r ∧ fitsD P B m t1 p ∧ fitsD P B m t2 q ∧ fitsD P B m t3 r := by
  obtain ⟨parts, m, h1, h2, h3⟩ := fits_types h hu hm
  match parts, h2 with
  | [p, q, r], _ => exact ⟨p, q, r, m, by simpa using h1, h3 0 t1 p rfl rfl, h3 1 t2 q rfl rfl, h3 2 t3 r rfl rfl⟩
theorem fits_list {α : Type} {cells : α → List AV} {Q : α → Prop} {xs : List (List AV)} (h : ∀ cs ∈ xs, ∃ a, cs = cells a ∧ Q a) : ∃ l : List α, xs = l.map cells ∧ ∀ a ∈ l, Q a := by
  induction xs with
  | nil => exact ⟨[], rfl, fun a ha => by cases ha⟩
  | cons x xs ih =>
    obtain ⟨a, h1, h2⟩ := h x (by simp)
    obtain ⟨l, h3, h4⟩ := ih (fun cs hcs => h cs (by simp [hcs]))
    refine ⟨a :: l, by simp [h1, h3], fun b hb => ?_⟩
    rcases List.mem_cons.1 hb with rfl | hb
    · exact h2
    · exact h4 b hb
end
end Go.Vm
end
section
namespace Go.Proofs
open Go.Vm
set_option linter.unusedVariables false
def iok (m : Int) : Prop := -9223372036854775808 ≤ m ∧ m < 9223372036854775808
theorem iok_wf {m : Int} (h : (Lit.int .i64 m).wf = true) : iok m := by
  have h1 : -9223372036854775808 ≤ m ∧ m ≤ 9223372036854775807 := by simpa [Lit.wf, IntKind.min, IntKind.max, IntKind.bits, IntKind.signed] using h
  exact ⟨h1.1, by omega⟩
def Val.ok (B : Nat) (x : Val) : Prop := (iok x.fKind) ∧ (iok x.fN)
theorem fits_Val59 {B n : Nat} {us : List AV} (h : fitsD Try.prog B n 59 us) : ∃ x : Val, us = Val.c x ∧ Val.ok B x := by
  obtain ⟨p, q, m, rfl, h0, h1⟩ := fits_two 3 3 h
  obtain ⟨x0, rfl, g0⟩ := fits_int (k := .i64) (by kernel_rfl) h0
  obtain ⟨x1, rfl, g1⟩ := fits_int (k := .i64) (by kernel_rfl) h1
  exact ⟨⟨x0, x1⟩, rfl, iok_wf g0, iok_wf g1⟩
def Node.ok (B : Nat) (x : Node) : Prop := (x.fClass.size ≤ B) ∧ (x.fVals.length ≤ B ∧ ∀ y ∈ x.fVals, Val.ok B y)
theorem fits_Node57 {B n : Nat} {us : List AV} (h : fitsD Try.prog B n 57 us) : ∃ x : Node, us = Node.c x ∧ Node.ok B x := by
  obtain ⟨p, q, m, rfl, h0, h1⟩ := fits_two 9 24 h
  obtain ⟨x0, rfl, g0⟩ := fits_str (by kernel_rfl) h0
  obtain ⟨y1, m1, rfl, g1, k1⟩ := fits_slice (e := 59) (by kernel_rfl) h1
  obtain ⟨x1, rfl, l1⟩ := fits_list (cells := Val.c) (Q := Val.ok B) (fun cs hcs => fits_Val59 (k1 cs hcs))
  rw [List.length_map] at g1
  exact ⟨⟨x0, x1⟩, rfl, g0, ⟨g1, l1⟩⟩
def Graph.ok (B : Nat) (x : Graph) : Prop := (x.fNodes.length ≤ B ∧ ∀ y ∈ x.fNodes, Node.ok B y) ∧ (x.fRoots.length ≤ B ∧ ∀ y ∈ x.fRoots, Val.ok B y)
theorem fits_Graph26 {B n : Nat} {us : List AV} (h : fitsD Try.prog B n 26 us) : ∃ x : Graph, us = Graph.c x ∧ Graph.ok B x := by
  obtain ⟨p, q, m, rfl, h0, h1⟩ := fits_two 23 24 h
  obtain ⟨y0, m0, rfl, g0, k0⟩ := fits_slice (e := 57) (by kernel_rfl) h0
  obtain ⟨x0, rfl, l0⟩ := fits_list (cells := Node.c) (Q := Node.ok B) (fun cs hcs => fits_Node57 (k0 cs hcs))
  rw [List.length_map] at g0
  obtain ⟨y1, m1, rfl, g1, k1⟩ := fits_slice (e := 59) (by kernel_rfl) h1
  obtain ⟨x1, rfl, l1⟩ := fits_list (cells := Val.c) (Q := Val.ok B) (fun cs hcs => fits_Val59 (k1 cs hcs))
  rw [List.length_map] at g1
  exact ⟨⟨x0, x1⟩, rfl, ⟨g0, l0⟩, ⟨g1, l1⟩⟩
def Col.ok (B : Nat) (x : Col) : Prop := (x.fName.size ≤ B) ∧ (iok x.fKind) ∧ (x.fClass.size ≤ B)
theorem fits_Col93 {B n : Nat} {us : List AV} (h : fitsD Try.prog B n 93 us) : ∃ x : Col, us = Col.c x ∧ Col.ok B x := by
  obtain ⟨p, q, r, m, rfl, h0, h1, h2⟩ := fits_three 9 3 9 h
  obtain ⟨x0, rfl, g0⟩ := fits_str (by kernel_rfl) h0
  obtain ⟨x1, rfl, g1⟩ := fits_int (k := .i64) (by kernel_rfl) h1
  obtain ⟨x2, rfl, g2⟩ := fits_str (by kernel_rfl) h2
  exact ⟨⟨x0, x1, x2⟩, rfl, g0, iok_wf g1, g2⟩
def Form.ok (B : Nat) (x : Form) : Prop := (x.fName.size ≤ B) ∧ (x.fCols.length ≤ B ∧ ∀ y ∈ x.fCols, Col.ok B y)
theorem fits_Form91 {B n : Nat} {us : List AV} (h : fitsD Try.prog B n 91 us) : ∃ x : Form, us = Form.c x ∧ Form.ok B x := by
  obtain ⟨p, q, m, rfl, h0, h1⟩ := fits_two 9 89 h
  obtain ⟨x0, rfl, g0⟩ := fits_str (by kernel_rfl) h0
  obtain ⟨y1, m1, rfl, g1, k1⟩ := fits_slice (e := 93) (by kernel_rfl) h1
  obtain ⟨x1, rfl, l1⟩ := fits_list (cells := Col.c) (Q := Col.ok B) (fun cs hcs => fits_Col93 (k1 cs hcs))
  rw [List.length_map] at g1
  exact ⟨⟨x0, x1⟩, rfl, g0, ⟨g1, l1⟩⟩
def Give.ok (B : Nat) (x : Give) : Prop := (x.fFrom.size ≤ B) ∧ (iok x.fHow) ∧ (iok x.fN)
theorem fits_Give97 {B n : Nat} {us : List AV} (h : fitsD Try.prog B n 97 us) : ∃ x : Give, us = Give.c x ∧ Give.ok B x := by
  obtain ⟨p, q, r, m, rfl, h0, h1, h2⟩ := fits_three 9 3 3 h
  obtain ⟨x0, rfl, g0⟩ := fits_str (by kernel_rfl) h0
  obtain ⟨x1, rfl, g1⟩ := fits_int (k := .i64) (by kernel_rfl) h1
  obtain ⟨x2, rfl, g2⟩ := fits_int (k := .i64) (by kernel_rfl) h2
  exact ⟨⟨x0, x1, x2⟩, rfl, g0, iok_wf g1, iok_wf g2⟩
def Rule.ok (B : Nat) (x : Rule) : Prop := (x.fClass.size ≤ B) ∧ (x.fTo.size ≤ B) ∧ (x.fGives.length ≤ B ∧ ∀ y ∈ x.fGives, Give.ok B y)
theorem fits_Rule100 {B n : Nat} {us : List AV} (h : fitsD Try.prog B n 100 us) : ∃ x : Rule, us = Rule.c x ∧ Rule.ok B x := by
  obtain ⟨p, q, r, m, rfl, h0, h1, h2⟩ := fits_three 9 9 98 h
  obtain ⟨x0, rfl, g0⟩ := fits_str (by kernel_rfl) h0
  obtain ⟨x1, rfl, g1⟩ := fits_str (by kernel_rfl) h1
  obtain ⟨y2, m2, rfl, g2, k2⟩ := fits_slice (e := 97) (by kernel_rfl) h2
  obtain ⟨x2, rfl, l2⟩ := fits_list (cells := Give.c) (Q := Give.ok B) (fun cs hcs => fits_Give97 (k2 cs hcs))
  rw [List.length_map] at g2
  exact ⟨⟨x0, x1, x2⟩, rfl, g0, g1, ⟨g2, l2⟩⟩
end Go.Proofs
end
section
set_option linter.unusedVariables false
set_option linter.unusedSimpArgs false
namespace Go.Proofs
open Go.Vm
theorem formIx_mem {A : List Form} {a : Form} (h : a ∈ A) : ¬ formIx A a.fName < 0 := by
  intro hlt
  have h1 := ix_neg (fun x : Form => sEqF x.fName a.fName) A
  have h2 : (A.any fun x => sEqF x.fName a.fName) = true := List.any_eq_true.2 ⟨a, h, sEqF_refl _⟩
  rw [h2] at h1
  exact of_decide_eq_false h1 hlt
theorem classS_noS : smallB noS = false := by decide
def ruleOne (B : List Form) (L M : List Rule) (a : Form) : Rule ⊕ Unit :=
  (givesJ (ruleAt L a.fName) (ruleAt M (ruleAt L a.fName).fTo) (formAt B (ruleAt L a.fName).fTo)).elim
    (fun l => bif askBad (ruleAt L a.fName) (ruleAt M (ruleAt L a.fName).fTo) (formAt B (ruleAt L a.fName).fTo) then .inr () else .inl ⟨a.fName, (ruleAt M (ruleAt L a.fName).fTo).fTo, l⟩) (fun _ => .inr ())
def ruleMk (A B : List Form) (L M : List Rule) (k : Nat) : Rule ⊕ Unit := match A[k]? with
  | some a => ruleOne B L M a
  | none => .inr ()
section
variable {n : Nat} {A B C : List Form} {L M : List Rule}
structure RulesSz (n : Nat) (l : List Rule) : Prop where
  ln : l.length < n
  gv : ∀ r ∈ l, r.fGives.length < n
end
end Go.Proofs
end
section
set_option linter.unusedVariables false
set_option linter.unusedSimpArgs false
namespace Go.Proofs
open Go.Vm
theorem fst0_all2 {E : Nat → Int} : ∀ (d k : Nat), (∀ j, k ≤ j → j < k + d → E j = 0) → fst0 E d k = 0
  | 0, k, _ => rfl
  | d + 1, k, h => by
    rw [show fst0 E (d + 1) k = bif E k == 0 then fst0 E d (k + 1) else E k from rfl, h k (Nat.le_refl _) (by omega)]
    exact fst0_all2 d (k + 1) (fun j h1 h2 => h j (by omega) (by omega))
theorem rulesE_mk {A B : List Form} {L : List Rule} (h : L.length ≤ 24) (h1 : ∀ k, k < L.length → E1 A B L k = 0) (h2 : ∀ k, k < A.length → E2 A L k = 0) (h3 : ∀ k, k < L.length → E3 A B L k = 0) : rulesE A B L = 0 := by
  unfold rulesE
  rw [fst0_all2 L.length 0 (fun j _ hj => h1 j (by omega)), fst0_all2 A.length 0 (fun j _ hj => h2 j (by omega)), fst0_all2 L.length 0 (fun j _ hj => h3 j (by omega))]
  rw [show decide (len L > 24) = false from decide_eq_false (by unfold len; omega)]
  rfl
theorem giveB_mk {L : List Rule} {g : Give} {cols : List Col} {to : Col} (h5 : inR g.fHow 1 5 = true → ¬ colIx cols g.fFrom < 0) (h7 : inR g.fHow 1 7 = true) (hn : numdB g to = true) (hf : fitsB L g (srcOf cols g) to = true) : giveB L g cols to = 0 := by
  unfold giveB
  rw [argBad_eq, h7, hn, hf]
  cases h : inR g.fHow 1 5 with
  | false => rfl
  | true => rw [decide_eq_false (h5 h)]; rfl
theorem hasRule_form {A B : List Form} {L : List Rule} (hr : rulesE A B L = 0) {x : ByteArray} (h : hasRule L x = true) : ¬ formIx A x < 0 := by
  unfold hasRule at h
  obtain ⟨r, hm, he⟩ := List.any_eq_true.1 h
  obtain ⟨k, hk, rfl⟩ := List.getElem_of_mem hm
  have := (E1_zero (rulesE_zero hr).1 hk).1
  rwa [sEqF_eq he] at this
theorem giveJ_inl {r q : Rule} {f : Form} {j : Nat} {p : Give} (h : giveJ r q f j = .inl p) : ∃ g, q.fGives[j]? = some g ∧
    ((inR g.fHow 1 5 = true ∧ ∃ h, gi r.fGives (colIx f.fCols g.fFrom) = some h ∧ (joinB h g).2 = true ∧ p = (joinB h g).1) ∨ (inR g.fHow 1 5 = false ∧ p = g)) := by
  unfold giveJ at h
  cases hg : q.fGives[j]? with
  | none => rw [hg] at h; cases h
  | some g =>
    rw [hg] at h
    refine ⟨g, rfl, ?_⟩
    have h : (bif inR g.fHow 1 5 then (match gi r.fGives (colIx f.fCols g.fFrom) with | some h => bif (joinB h g).2 then (.inl (joinB h g).1 : Give ⊕ Unit) else .inr () | none => .inr ()) else .inl g) = .inl p := h
    cases h5 : inR g.fHow 1 5 with
    | false => rw [h5] at h; cases h; exact .inr ⟨rfl, rfl⟩
    | true =>
      rw [h5] at h
      have h : (match gi r.fGives (colIx f.fCols g.fFrom) with | some h => bif (joinB h g).2 then (.inl (joinB h g).1 : Give ⊕ Unit) else .inr () | none => .inr ()) = .inl p := h
      cases hh : gi r.fGives (colIx f.fCols g.fFrom) with
      | none => rw [hh] at h; cases h
      | some x =>
        rw [hh] at h
        have h : (bif (joinB x g).2 then (.inl (joinB x g).1 : Give ⊕ Unit) else .inr ()) = .inl p := h
        cases hj : (joinB x g).2 with
        | false => rw [hj] at h; cases h
        | true => rw [hj] at h; cases h; exact .inl ⟨rfl, x, rfl, hj, rfl⟩
theorem ruleMk_inl {A B : List Form} {L M : List Rule} {k : Nat} {x : Rule} (h : ruleMk A B L M k = .inl x) : ∃ a gs, A[k]? = some a ∧ givesJ (ruleAt L a.fName) (ruleAt M (ruleAt L a.fName).fTo) (formAt B (ruleAt L a.fName).fTo) = .inl gs ∧
    askBad (ruleAt L a.fName) (ruleAt M (ruleAt L a.fName).fTo) (formAt B (ruleAt L a.fName).fTo) = false ∧ x = ⟨a.fName, (ruleAt M (ruleAt L a.fName).fTo).fTo, gs⟩ := by
  unfold ruleMk at h
  cases ha : A[k]? with
  | none => rw [ha] at h; cases h
  | some a =>
    rw [ha] at h
    have h : ruleOne B L M a = .inl x := h
    unfold ruleOne at h
    refine ⟨a, ?_⟩
    cases hj : givesJ (ruleAt L a.fName) (ruleAt M (ruleAt L a.fName).fTo) (formAt B (ruleAt L a.fName).fTo) with
    | inr u => rw [hj] at h; cases h
    | inl gs =>
      rw [hj, Sum.elim_inl] at h
      cases hb : askBad (ruleAt L a.fName) (ruleAt M (ruleAt L a.fName).fTo) (formAt B (ruleAt L a.fName).fTo) with
      | true => rw [hb] at h; cases h
      | false => rw [hb] at h; cases h; exact ⟨gs, rfl, rfl, rfl, rfl⟩
structure Chained (A B C : List Form) (L M l : List Rule) : Prop where
  hA : FormsOk A
  hB : FormsOk B
  hC : FormsOk C
  h1 : rulesE A B L = 0
  h2 : rulesE B C M = 0
  hl : fin (ruleMk A B L M) A.length 0 [] = .inl l
section
variable {A B C : List Form} {L M l : List Rule}
theorem Chained.get (h : Chained A B C L M l) : l.length = A.length ∧ ∀ (j : Nat) (x : Rule), l[j]? = some x → ∃ (a : Form) (gs : List Give), A[j]? = some a ∧ givesJ (ruleAt L a.fName) (ruleAt M (ruleAt L a.fName).fTo) (formAt B (ruleAt L a.fName).fTo) = .inl gs ∧
    askBad (ruleAt L a.fName) (ruleAt M (ruleAt L a.fName).fTo) (formAt B (ruleAt L a.fName).fTo) = false ∧ x = ⟨a.fName, (ruleAt M (ruleAt L a.fName).fTo).fTo, gs⟩ := by
  obtain ⟨t, e, e2, e3⟩ := fin_get _ _ _ _ h.hl
  have e : l = t := by simpa using e
  subst e
  refine ⟨e2, fun j x hx => ?_⟩
  have := e3 j x hx
  rw [Nat.zero_add] at this
  exact ruleMk_inl this
theorem Chained.at_ (h : Chained A B C L M l) {c : ByteArray} (hc : ¬ formIx A c < 0) : hasRule l c = true ∧ ∃ gs, givesJ (ruleAt L c) (ruleAt M (ruleAt L c).fTo) (formAt B (ruleAt L c).fTo) = .inl gs ∧
    askBad (ruleAt L c) (ruleAt M (ruleAt L c).fTo) (formAt B (ruleAt L c).fTo) = false ∧ ruleAt l c = ⟨c, (ruleAt M (ruleAt L c).fTo).fTo, gs⟩ := by
  obtain ⟨g1, g2⟩ := h.get
  have hr : hasRule l c = true := by
    obtain ⟨_, m1, m2⟩ := formAt_gi hc
    obtain ⟨k, hk, he⟩ := List.getElem_of_mem m1
    have hk2 : k < l.length := by omega
    obtain ⟨a, gs, e1, e2, e3, e4⟩ := g2 k _ (List.getElem?_eq_getElem hk2)
    rw [List.getElem?_eq_getElem hk, he] at e1
    cases e1
    unfold hasRule
    refine List.any_eq_true.2 ⟨_, List.getElem_mem hk2, ?_⟩
    unfold ruleP
    rw [e4]
    exact m2
  refine ⟨hr, ?_⟩
  rcases ix_find (ruleP c) l 0 with ⟨h1, h2, h3⟩ | ⟨j, x, h1, h2, h3, h4, h5⟩
  · unfold hasRule at hr; rw [h2] at hr; cases hr
  · have e : ruleAt l c = x := by unfold ruleAt; rw [h1]; rfl
    obtain ⟨a, gs, e1, e2, e3, e4⟩ := g2 j x h4
    have hac : a.fName = c := by
      have : x.fClass = c := sEqF_eq h5
      rw [e4] at this
      exact this
    rw [hac] at e2 e3 e4
    exact ⟨gs, e2, e3, by rw [e, e4]⟩
theorem Chained.leads (h : Chained A B C L M l) {x y z : ByteArray} (h1 : leadsB L x y = true) (h2 : leadsB M y z = true) : leadsB l x z = true := by
  unfold leadsB at h1 h2 ⊢
  cases hz : sEqF z ANY with
  | true => rfl
  | false =>
    rw [hz] at h2
    have h2 : (bif hasRule M y then sEqF (ruleAt M y).fTo z else false) = true := h2
    cases hy : hasRule M y with
    | false => rw [hy] at h2; cases h2
    | true =>
      rw [hy] at h2
      have h2 : sEqF (ruleAt M y).fTo z = true := h2
      cases hya : sEqF y ANY with
      | true => rw [hasRule_any (noAny_of h.hB (rulesE_zero h.h2).1) hya] at hy; cases hy
      | false =>
        rw [hya] at h1
        have h1 : (bif hasRule L x then sEqF (ruleAt L x).fTo y else false) = true := h1
        cases hx : hasRule L x with
        | false => rw [hx] at h1; cases h1
        | true =>
          rw [hx] at h1
          have h1 : sEqF (ruleAt L x).fTo y = true := h1
          obtain ⟨i1, gs, i2, i3, i4⟩ := h.at_ (hasRule_form h.h1 hx)
          rw [i1, i4]
          show sEqF (ruleAt M (ruleAt L x).fTo).fTo z = true
          rw [sEqF_eq h1]
          exact h2
theorem fitsB_67 {L N : List Rule} {g : Give} {a b : Col} (h7 : inR g.fHow 1 7 = true) (h5 : inR g.fHow 1 5 = false) : fitsB L g a b = fitsB N g a b := by
  rcases inR17 h7 with h | h | h | h | h | h | h <;> rw [h] at h5 <;> first | (exfalso; revert h5; decide) | (unfold fitsB; rw [h]; rfl)
theorem Chained.give (h : Chained A B C L M l) {c : ByteArray} (hc : ¬ formIx A c < 0) {j : Nat} {p : Give} {u : Col} (hp : giveJ (ruleAt L c) (ruleAt M (ruleAt L c).fTo) (formAt B (ruleAt L c).fTo) j = .inl p)
    (hu : (formAt C (ruleAt M (ruleAt L c).fTo).fTo).fCols[j]? = some u) : giveB l p (formAt A c).fCols u = 0 := by
  have ro := ruleOk_of h.h1 hc
  have rp := ruleOk_of h.h2 ro.to
  obtain ⟨g, hg, hcase⟩ := giveJ_inl hp
  obtain ⟨j1, j1'⟩ := List.getElem?_eq_some_iff.1 hg
  obtain ⟨j2, j2'⟩ := List.getElem?_eq_some_iff.1 hu
  have hgv := rp.gv j j1 j2
  rw [j1', j2'] at hgv
  obtain ⟨k7, k5⟩ := giveB_src hgv
  obtain ⟨kf, kn⟩ := giveB_fit hgv
  rcases hcase with ⟨i5, x, ix, ij, rfl⟩ | ⟨i5, rfl⟩
  · have hi := k5 i5
    obtain ⟨ci1, ci2, ci3⟩ := colAt_gi hi
    have es : srcOf (formAt B (ruleAt L c).fTo).fCols g = colAt (formAt B (ruleAt L c).fTo).fCols g.fFrom := by unfold srcOf; rw [i5]; rfl
    rw [es] at kf
    have hx : ∃ i : Nat, ∃ (e1 : i < (ruleAt L c).fGives.length) (e2 : i < (formAt B (ruleAt L c).fTo).fCols.length), (ruleAt L c).fGives[i] = x ∧ (formAt B (ruleAt L c).fTo).fCols[i] = colAt (formAt B (ruleAt L c).fTo).fCols g.fFrom := by
      unfold colIx at hi ix ci1
      rcases ix_find (fun x : Col => sEqF x.fName g.fFrom) (formAt B (ruleAt L c).fTo).fCols 0 with ⟨h1, h2, h3⟩ | ⟨i, y, h1, h2, h3, h4, h5⟩
      · rw [h3] at hi; omega
      · rw [h3, Nat.zero_add, gi_nat] at ix ci1
        obtain ⟨a1, a2⟩ := List.getElem?_eq_some_iff.1 ix
        obtain ⟨b1, b2⟩ := List.getElem?_eq_some_iff.1 ci1
        exact ⟨i, a1, b1, a2, b2⟩
    obtain ⟨i, e1, e2, e3, e4⟩ := hx
    have hxv := ro.gv i e1 e2
    rw [e3, e4] at hxv
    obtain ⟨x7, x5⟩ := giveB_src hxv
    obtain ⟨xf, xn⟩ := giveB_fit hxv
    obtain ⟨r1, r2, r3, r4, r5⟩ := joinFit x7 i5 xn kn xf kf (fun a b => h.leads a b) ij
    refine giveB_mk (fun h5 => ?_) r1 r4 ?_
    · rw [r3]; exact x5 (by rw [← r2]; exact h5)
    · have : srcOf (formAt A c).fCols (joinB x g).1 = srcOf (formAt A c).fCols x := by unfold srcOf; rw [r2, r3]
      rw [this]; exact r5
  · refine giveB_mk (fun h5 => by rw [i5] at h5; cases h5) k7 kn ?_
    rw [← fitsB_67 (L := M) k7 i5]
    have e1 : srcOf (formAt A c).fCols p = noC := by unfold srcOf; rw [i5]; rfl
    have e2 : srcOf (formAt B (ruleAt L c).fTo).fCols p = noC := by unfold srcOf; rw [i5]; rfl
    rw [e1]; rw [e2] at kf; exact kf
theorem Chained.right (h : Chained A B C L M l) : rulesE A C l = 0 := by
  obtain ⟨g1, g2⟩ := h.get
  refine rulesE_mk (by have := h.hA.len; omega) (fun k hk => ?_) (fun k hk => ?_) (fun k hk => ?_)
  · have hkA : k < A.length := by omega
    obtain ⟨a, gs, e1, e2, e3, e4⟩ := g2 k _ (List.getElem?_eq_getElem hk)
    unfold E1
    rw [List.getElem?_eq_getElem hk, e4]
    have ha : A[k] = a := by rw [List.getElem?_eq_getElem hkA] at e1; exact Option.some.inj e1
    have hm : a ∈ A := by rw [← ha]; exact List.getElem_mem hkA
    have f1 := formIx_mem hm
    have f2 := (ruleOk_of h.h2 (ruleOk_of h.h1 f1).to).to
    have f3 : hasRule (l.take k) a.fName = false := by
      cases hh : hasRule (l.take k) a.fName with
      | false => rfl
      | true =>
        exfalso
        unfold hasRule at hh
        obtain ⟨r, hm, he⟩ := List.any_eq_true.1 hh
        obtain ⟨i, hi, hri⟩ := List.getElem_of_mem hm
        rw [List.length_take] at hi
        have hi2 : i < l.length := by omega
        rw [List.getElem_take] at hri
        obtain ⟨b, gs2, b1, _, _, b4⟩ := g2 i _ (List.getElem?_eq_getElem hi2)
        have hn : b.fName = a.fName := by
          have : r.fClass = a.fName := sEqF_eq he
          rw [← hri, b4] at this
          exact this
        have hbm : b ∈ A.take k := by
          have : (A.take k)[i]? = some b := by rw [List.getElem?_take_of_lt (by omega)]; exact b1
          exact List.mem_of_getElem? this
        have := formIx_mem hbm
        rw [hn, ← ha] at this
        exact this (h.hA.dup k hkA)
    show (bif decide (formIx A a.fName < 0) then (4 : Int) else bif decide (formIx C (ruleAt M (ruleAt L a.fName).fTo).fTo < 0) then 4 else bif hasRule (l.take k) a.fName then 6 else 0) = 0
    rw [decide_eq_false f1, decide_eq_false f2, f3]
    rfl
  · unfold E2
    rw [List.getElem?_eq_getElem hk]
    show (bif hasRule l A[k].fName then (0 : Int) else 5) = 0
    rw [(h.at_ (formIx_mem (List.getElem_mem hk))).1]
    rfl
  · obtain ⟨a, gs, e1, e2, e3, e4⟩ := g2 k _ (List.getElem?_eq_getElem hk)
    have hm : a ∈ A := List.mem_of_getElem? e1
    have f1 := formIx_mem hm
    have ro := ruleOk_of h.h1 f1
    have rp := ruleOk_of h.h2 ro.to
    obtain ⟨t, y1, y2, y3⟩ := fin_get _ _ _ _ e2
    have y1 : gs = t := by simpa using y1
    subst y1
    unfold E3
    rw [List.getElem?_eq_getElem hk, e4]
    have hlen : gs.length = (formAt C (ruleAt M (ruleAt L a.fName).fTo).fTo).fCols.length := by rw [y2]; exact rp.ln
    show (bif gs.length == (formAt C (ruleAt M (ruleAt L a.fName).fTo).fTo).fCols.length then fst0 (E4 l ⟨a.fName, (ruleAt M (ruleAt L a.fName).fTo).fTo, gs⟩ (formAt A a.fName) (formAt C (ruleAt M (ruleAt L a.fName).fTo).fTo)) gs.length 0 else 2) = 0
    rw [hlen, beq_self_eq_true]
    refine fst0_all2 _ 0 fun j _ hj => ?_
    have hj2 : j < (formAt C (ruleAt M (ruleAt L a.fName).fTo).fTo).fCols.length := by omega
    have hj1 : j < gs.length := by omega
    unfold E4
    show (match gs[j]?, (formAt C (ruleAt M (ruleAt L a.fName).fTo).fTo).fCols[j]? with | some g, some c => giveB l g (formAt A a.fName).fCols c | _, _ => 0) = 0
    rw [List.getElem?_eq_getElem hj1, List.getElem?_eq_getElem hj2]
    have hz := y3 j _ (List.getElem?_eq_getElem hj1)
    rw [Nat.zero_add] at hz
    exact h.give f1 hz (List.getElem?_eq_getElem hj2)
end
end Go.Proofs
end
section
set_option linter.unusedVariables false
set_option linter.unusedSimpArgs false
namespace Go.Proofs
open Go.Vm
theorem fin_congr {α τ : Type} {m1 m2 : Nat → α ⊕ τ} : ∀ (d k : Nat) (s : List α), (∀ j, k ≤ j → j < k + d → m1 j = m2 j) → fin m1 d k s = fin m2 d k s
  | 0, k, s, _ => rfl
  | d + 1, k, s, h => by
    show (match m1 k with | .inl x => fin m1 d (k + 1) (s ++ [x]) | .inr t => .inr t) = (match m2 k with | .inl x => fin m2 d (k + 1) (s ++ [x]) | .inr t => .inr t)
    rw [h k (Nat.le_refl _) (by omega)]
    cases m2 k with
    | inl x => exact fin_congr d (k + 1) (s ++ [x]) (fun j h1 h2 => h j (by omega) (by omega))
    | inr t => rfl
theorem srcVal {A : List Form} {g : Graph} (hA : FormsOk A) (hg : GoodG A g) {x : Node} (hx : x ∈ g.fNodes) {h : Give} (h5 : inR h.fHow 1 5 = true) (hc : ¬ colIx (formAt A x.fClass).fCols h.fFrom < 0) :
    ((srcOf (formAt A x.fClass).fCols h).fKind = 1 → ((gi x.fVals (colIx (formAt A x.fClass).fCols h.fFrom)).getD noV).fKind = 1) ∧
    ((srcOf (formAt A x.fClass).fCols h).fKind = 2 → ((gi x.fVals (colIx (formAt A x.fClass).fCols h.fFrom)).getD noV).fKind = 2 ∧ 0 ≤ ((gi x.fVals (colIx (formAt A x.fClass).fCols h.fFrom)).getD noV).fN ∧ ((gi x.fVals (colIx (formAt A x.fClass).fCols h.fFrom)).getD noV).fN ≤ 1) := by
  have e : srcOf (formAt A x.fClass).fCols h = colAt (formAt A x.fClass).fCols h.fFrom := by unfold srcOf; rw [h5]; rfl
  have hi2 := (colAt_gi hc).1
  rw [e]
  have hv : ∃ j : Nat, ∃ v, (formAt A x.fClass).fCols[j]? = some (colAt (formAt A x.fClass).fCols h.fFrom) ∧ x.fVals[j]? = some v ∧ gi x.fVals (colIx (formAt A x.fClass).fCols h.fFrom) = some v := by
    unfold colIx at hc hi2 ⊢
    rcases ix_find (fun x : Col => sEqF x.fName h.fFrom) (formAt A x.fClass).fCols 0 with ⟨h1, h2, h3⟩ | ⟨j, y, h1, h2, h3, h4, h5⟩
    · rw [h3] at hc; omega
    · rw [h3, Nat.zero_add, gi_nat] at hi2
      rw [h3, Nat.zero_add, gi_nat]
      have hj := (List.getElem?_eq_some_iff.1 h4).1
      have hv' := List.getElem?_eq_getElem (show j < x.fVals.length by rw [hg.ln x hx]; exact hj)
      exact ⟨j, _, hi2, hv', hv'⟩
  obtain ⟨j, v, h1, h2, h3⟩ := hv
  rw [h3]
  have s1 := hg.su x hx j _ v h1 h2
  have s2 := hg.fr.2.2.1 x hx v (List.mem_of_getElem? h2)
  generalize colAt (formAt A x.fClass).fCols h.fFrom = a at *
  obtain ⟨vk, vn⟩ := v
  show (a.fKind = 1 → vk = 1) ∧ (a.fKind = 2 → vk = 2 ∧ 0 ≤ vn ∧ vn ≤ 1)
  unfold suitsC at s1
  refine ⟨fun hk => ?_, fun hk => ?_⟩
  · rw [hk] at s1; exact eq_of_beq s1
  · rw [hk] at s1
    have hvk : vk = 2 := eq_of_beq s1
    subst hvk
    have s2 : inR vn 0 1 = true := s2
    rw [inR_iff] at s2
    exact ⟨rfl, s2.1, s2.2⟩
section
variable {A B C : List Form} {L M l : List Rule} {g : Graph}
def outV (m : Val × Bool) (s : ByteArray) : Val ⊕ ByteArray := bif m.2 then .inl m.1 else .inr s
end
end Go.Proofs
end
section
namespace Go.Proofs
open Go.Vm
end Go.Proofs
end
section
namespace Go.Proofs
open Go.Vm
theorem f14_tot {g : Graph} {n : Nat} (hg : GraphSz n g) (hn : n < 4611686018427387904) : ∃ r, f14 n g = some r := by
  have hK : ∃ r, f14_k5 g = some r := by
    unfold f14_k5 f14_k42
    cases decide (len g.fNodes ≤ 30) <;> cases decide (len g.fRoots ≤ 10) <;> cases decide (len g.fRoots > 60) <;> cases decide (len g.fNodes > 400) <;> cases decide (len g.fNodes ≤ 410) <;> exact ⟨_, rfl⟩
  obtain ⟨K, hK⟩ := hK
  unfold f14
  rw [hK]
  have hl := hg.1
  refine scanTot g.fNodes.length (fun m (_ : Unit) k => f14_l8 g (some K) m k) (fun m k v hk => ?_) (fun m v => ?_) g.fNodes.length 0 n () (by omega) hl
  · show (∃ r, f14_l8 g (some K) (m + 1) k = some r) ∨ ∃ v' : Unit, f14_l8 g (some K) (m + 1) k = f14_l8 g (some K) m ((k + 1 : Nat) : Int)
    rw [f14_l8.eq_2]
    have h1 : decide ((k : Int) < len g.fNodes) = true := by simp [len]; omega
    have e0 : wr .i64 ((k : Int) + 1) = ((k + 1 : Nat) : Int) := by rw [wr_id (by omega) (by omega)]; omega
    rw [h1, gi_nat, List.getElem?_eq_getElem hk]
    simp only [cond_true, Option.bind_some, f14_k34, e0]
    cases decide (len g.fNodes[k].fVals > 8) <;> cases decide (len g.fNodes[k].fVals ≤ 30) <;> cases decide (len g.fNodes[k].fVals > 40) <;> first | exact .inl ⟨_, rfl⟩ | exact .inr ⟨(), rfl⟩
  · show ∃ r, f14_l8 g (some K) (m + 1) (g.fNodes.length : Int) = some r
    rw [f14_l8.eq_2]
    have h1 : decide ((g.fNodes.length : Int) < len g.fNodes) = false := by simp [len]
    rw [h1]; exact ⟨_, rfl⟩
end Go.Proofs
end
section
namespace Go.Proofs
open Go.Vm
theorem f13_tot {l : List Form} {n : Nat} (hz : FormSz n l) (hn : n < 4611686018427387904) : ∃ r, f13 n l = some r := by
  have hK : ∃ r, f13_k3 l = some r := by
    unfold f13_k3 f13_k128
    cases decide (len l ≤ 6) <;> cases decide (len l > 24) <;> exact ⟨_, rfl⟩
  obtain ⟨K, hK⟩ := hK
  have hl := hz.1
  have inner : ∀ (k : Nat) (hk : k < l.length) (A : Option Bool), (∃ r, f13_l90 l[k] l k A n 0 = some r) ∨ f13_l90 l[k] l k A n 0 = A := fun k hk A => by
    have hg : gi l (k : Int) = some l[k] := by rw [gi_nat, List.getElem?_eq_getElem hk]
    have hc := (hz.2 _ (List.getElem_mem hk)).2.1
    have key : ∀ (d j m : Nat), d + j = l[k].fCols.length → d < m → (∃ r, f13_l90 l[k] l k A m j = some r) ∨ f13_l90 l[k] l k A m j = A := by
      intro d
      induction d with
      | zero =>
        intro j m hj hm
        obtain ⟨m, rfl⟩ := Nat.exists_eq_succ_of_ne_zero (by omega : m ≠ 0)
        right
        rw [f13_l90.eq_2]
        have h1 : decide ((j : Int) < len l[k].fCols) = false := by simp [len]; omega
        rw [h1]; rfl
      | succ d ih =>
        intro j m hj hm
        obtain ⟨m, rfl⟩ := Nat.exists_eq_succ_of_ne_zero (by omega : m ≠ 0)
        have hj2 : j < l[k].fCols.length := by omega
        have h1 : decide ((j : Int) < len l[k].fCols) = true := by simp [len]; omega
        have e0 : wr .i64 ((j : Int) + 1) = ((j + 1 : Nat) : Int) := by rw [wr_id (by omega) (by omega)]; omega
        have := ih (j + 1) m (by omega) (by omega)
        rw [f13_l90.eq_2, h1, hg]
        simp only [cond_true, Option.bind_some, gi_nat, List.getElem?_eq_getElem hj2, f13_k115, e0]
        cases decide (bsz l[k].fCols[j].fName > 30) <;> cases decide (bsz l[k].fCols[j].fClass > 30) <;> first | exact this | exact .inl ⟨_, rfl⟩
    exact key l[k].fCols.length 0 n (by omega) hc
  unfold f13
  rw [hK]
  refine scanTot l.length (fun m (_ : Unit) k => f13_l6 l n (some K) m k) (fun m k v hk => ?_) (fun m v => ?_) l.length 0 n () (by omega) hl
  · show (∃ r, f13_l6 l n (some K) (m + 1) k = some r) ∨ ∃ v' : Unit, f13_l6 l n (some K) (m + 1) k = f13_l6 l n (some K) m ((k + 1 : Nat) : Int)
    rw [f13_l6.eq_2]
    have h1 : decide ((k : Int) < len l) = true := by simp [len]; omega
    have e0 : wr .i64 ((k : Int) + 1) = ((k + 1 : Nat) : Int) := by rw [wr_id (by omega) (by omega)]; omega
    have hg : gi l (k : Int) = some l[k] := by rw [gi_nat, List.getElem?_eq_getElem hk]
    rw [h1, hg]
    simp only [cond_true, Option.bind_some, f13_k79]
    have hi : (∃ r, f13_l90 l[k] l k (f13_k72 k (f13_l6 l n (some K) m)) n 0 = some r) ∨ f13_l90 l[k] l k (f13_k72 k (f13_l6 l n (some K) m)) n 0 = f13_l6 l n (some K) m ((k + 1 : Nat) : Int) := by
      have := inner k hk (f13_k72 k (f13_l6 l n (some K) m))
      rw [show f13_k72 (k : Int) (f13_l6 l n (some K) m) = f13_l6 l n (some K) m ((k + 1 : Nat) : Int) by unfold f13_k72; rw [e0]] at this ⊢
      exact this
    have hi2 : (∃ r, f13_l90 l[k] l k (f13_k72 k (f13_l6 l n (some K) m)) n 0 = some r) ∨ ∃ v' : Unit, f13_l90 l[k] l k (f13_k72 k (f13_l6 l n (some K) m)) n 0 = f13_l6 l n (some K) m ((k + 1 : Nat) : Int) := hi.imp id fun h => ⟨(), h⟩
    cases decide (bsz l[k].fName > 30) <;> cases decide (len l[k].fCols > 6) <;> cases decide (len l[k].fCols ≤ 30) <;> cases decide (len l[k].fCols > 40) <;> first | exact hi2 | exact .inl ⟨_, rfl⟩
  · show ∃ r, f13_l6 l n (some K) (m + 1) (l.length : Int) = some r
    rw [f13_l6.eq_2]
    have h1 : decide ((l.length : Int) < len l) = false := by simp [len]
    rw [h1]; exact ⟨_, rfl⟩
end Go.Proofs
end
section
set_option linter.unusedVariables false
namespace Go.Proofs
open Go.Vm
theorem f15_tt : f15 40 = some true := rfl
theorem Val.eqB_refl (a : Val) : Val.eqB a a = true := by unfold Val.eqB; simp
theorem bytes_refl (a : ByteArray) : (a == a) = true := by
  show (a.data == a.data) = true
  simp
theorem Refusal.eqB_refl (a : Refusal) : Refusal.eqB a a = true := by unfold Refusal.eqB; rw [bytes_refl]; simp
theorem scan1 {ρ : Type} (N : Nat) (K : Option ρ) (L : Nat → Int → Option ρ) (hL : ∀ m (k : Nat), k < N → L (m + 1) k = L m (wr .i64 (k + 1))) (hK : ∀ m, L (m + 1) N = K) (hl : N < 4611686018427387904) {n : Nat} (hn : N < n) : L n 0 = K := by
  have h := scanN N K (fun _ acc => acc) L hL hK hl N 0 n (by omega) hn
  have hg : ∀ d k, goN (fun _ (acc : Option ρ) => acc) K d k = K := fun d => by
    induction d with
    | zero => intro k; rfl
    | succ d ih => intro k; exact ih (k + 1)
  exact h.trans (hg N 0)
theorem f31_tot {n : Nat} {L : List Rule} (hL : L.length < n) (hn : n < 4611686018427387904) : ∃ r, f31 n L = some r := by
  have hK : ∃ r, f31_k3 L = some r := by
    unfold f31_k3 f31_k32
    cases decide (len L ≤ 8) <;> cases decide (len L > 24) <;> exact ⟨_, rfl⟩
  unfold f31
  have h := scanN L.length (f31_k3 L) (fun k acc => match L[k]? with | some r => bif decide (len r.fGives > 8) then some false else acc | none => none) (f31_l6 L (f31_k3 L)) (fun m k hk => by
    rw [f31_l6.eq_2, ltL L k hk, gi_nat]
    simp only [List.getElem?_eq_getElem hk, Option.bind_some, cond_true]) (fun m => by rw [f31_l6.eq_2, geL]; rfl) (by omega) L.length 0 n (by omega) hL
  have h' : f31_l6 L (f31_k3 L) n 0 = _ := h
  rw [h']
  refine goN_tot _ L.length (fun k acc hk ha => ?_) L.length 0 _ (by omega) hK
  simp only [List.getElem?_eq_getElem hk]
  cases decide (len L[k].fGives > 8)
  · exact ha
  · exact ⟨_, rfl⟩
theorem formSz_ok2 {l : List Form} {B n : Nat} (h : l.length ≤ B ∧ ∀ y ∈ l, Form.ok B y) (hn : B < n) : FormSz n l :=
  ⟨by omega, fun f hf => ⟨by have := (h.2 f hf).1; omega, by have := (h.2 f hf).2.1; omega, fun c hc => by have := ((h.2 f hf).2.2 c hc).1; omega⟩⟩
theorem graphSz_ok2 {g : Graph} {B n : Nat} (h : Graph.ok B g) (hn : B < n) : GraphSz n g :=
  ⟨by have := h.1.1; omega, by have := h.2.1; omega, fun x hx => by have := (h.1.2 x hx).2.1; omega⟩
end Go.Proofs
end
section
set_option linter.unusedVariables false
set_option linter.unusedSimpArgs false
namespace Go.Proofs
open Go.Vm
section
variable {n : Nat} {A B C : List Form} {L M : List Rule} {g : Graph}
theorem bne0 {x : Int} (h : (x != 0) = false) : x = 0 := by simpa using h
theorem f33_one (hA : FormSz n A) (hB : FormSz n B) (hL : L.length < n) (h9 : 100 < n) (hn : n < 4611686018427387904) :
    ∃ e, f33 n A B L = some e ∧ (e = 0 → f16 n A = some 0 ∧ f16 n B = some 0 ∧ rulesE A B L = 0) ∧ (f16 n A = some 0 → f16 n B = some 0 → e = rulesE A B L) := by
  obtain ⟨a, ha⟩ := f16_tot hA h9 hn
  obtain ⟨b, hb⟩ := f16_tot hB h9 hn
  have hz := ruleSz hA hB hL
  unfold f33
  rw [ha, hb]
  simp only [Option.bind_some]
  rw [f49_two h9, f80_eq hz hn]
  simp only [Option.bind_some]
  cases h1 : a != 0 with
  | true =>
    simp only [cond_true, h1]
    exact ⟨a, rfl, fun h => (by rw [h] at h1; cases h1), fun h => by rw [Option.some.inj h] at h1; cases h1⟩
  | false =>
    have h1' := bne0 h1
    subst h1'
    cases h2 : b != 0 with
    | true =>
      simp only [cond_false, cond_true, h2]
      exact ⟨b, rfl, fun h => (by rw [h] at h2; cases h2), fun _ h => by rw [Option.some.inj h] at h2; cases h2⟩
    | false =>
      have h2' := bne0 h2
      subst h2'
      exact ⟨rulesE A B L, rfl, fun h => ⟨rfl, rfl, h⟩, fun _ _ => rfl⟩
theorem convR_sz2 (hz : RuleSz n A B L) (hg : GraphSz n g) (hr : rulesE A B L = 0) (hc : ∀ x ∈ g.fNodes, ¬ formIx A x.fClass < 0) : GraphSz n (convR A B L g).1 := convR_sz hz hg hr hc
theorem f32_one (hA : FormSz n A) (hB : FormSz n B) (hL : L.length < n) (hg : GraphSz n g) (h9 : 100 < n) (hn : n < 1000000000) (hr : rulesE A B L = 0) (h1 : f16 n A = some 0) (h2 : f16 n B = some 0) (hgd : GoodG A g) :
    f32 n A B L g = some (convR A B L g) := by
  have hz := ruleSz hA hB hL
  obtain ⟨e, e1, _, e3⟩ := f33_one hA hB hL h9 (by omega)
  have he : e = 0 := by rw [e3 h1 h2, hr]
  subst he
  unfold f32
  rw [e1]
  simp only [Option.bind_some]
  rw [f49_one h9]
  simp only [Option.bind_some, show ((0 : Int) != 0) = false from rfl, cond_false]
  rw [(f59_good hA hg (by omega)).2 hgd]
  simp only [Option.bind_some, show ((0 : Int) != 0) = false from rfl, cond_false]
  rw [app2_eq (by have := hg.2.1; simp; omega)]
  simp only [Option.bind_some]
  rw [f32_l hz hg hn hr (fun x hx => ⟨hgd.cl x hx, hgd.ln x hx⟩)]
  unfold convR f32_k25
  cases fin (nodeMk A B L g) g.fNodes.length 0 [] <;> rfl
theorem f18_one (hA : FormSz n A) (hg : GraphSz n g) (h9 : 100 < n) (hn : n < 4611686018427387904) : ∃ e, f18 n A g = some e ∧ (e = 0 → GoodG A g) := by
  obtain ⟨a, ha⟩ := f16_tot hA h9 hn
  obtain ⟨d, d1, _⟩ := f59_f19 ha hA hg h9 hn
  unfold f18
  rw [ha]
  simp only [Option.bind_some]
  cases h1 : a != 0 with
  | true => exact ⟨a, rfl, fun h => by rw [h] at h1; cases h1⟩
  | false =>
    simp only [cond_false]
    rw [d1]
    exact ⟨d, rfl, fun h => by rw [h] at d1; exact (f59_good hA hg hn).1 d1⟩
end
end Go.Proofs
end
section
namespace Go.Proofs
open Go.Vm
section
variable {σ ρ : Type}
theorem loopT {N : Nat} (L : Nat → Int → σ → Option ρ) (K : σ → Option ρ) (S : Nat → σ)
    (hs : ∀ m (k : Nat), k < N → L (m + 1) k (S k) = L m ((k + 1 : Nat) : Int) (S (k + 1))) (he : ∀ m, L (m + 1) N (S N) = K (S N)) :
    ∀ (d k n : Nat), d + k = N → d < n → L n k (S k) = K (S N)
  | 0, k, n, hk, hn => by
    obtain ⟨n, rfl⟩ := Nat.exists_eq_succ_of_ne_zero (by omega : n ≠ 0)
    have : k = N := by omega
    subst this
    exact he _
  | d + 1, k, n, hk, hn => by
    obtain ⟨n, rfl⟩ := Nat.exists_eq_succ_of_ne_zero (by omega : n ≠ 0)
    rw [hs n k (by omega)]
    exact loopT L K S hs he d (k + 1) n (by omega) (by omega)
end
theorem lt_len {α : Type} {l : List α} {k : Nat} (h : k < l.length) : decide ((k : Int) < len l) = true := by simp [len]; omega
theorem ge_len {α : Type} {l : List α} : decide ((l.length : Int) < len l) = false := by simp [len]
theorem wr_succ {k : Nat} (h : k < 4611686018427387904) : wr .i64 ((k : Int) + 1) = ((k + 1 : Nat) : Int) := by rw [wr_id (by omega) (by omega)]; omega
theorem gi_get {α : Type} {l : List α} {k : Nat} (h : k < l.length) : gi l (k : Int) = some l[k] := by rw [gi_nat, List.getElem?_eq_getElem h]
theorem gi_of {α : Type} {l : List α} {y : Int} (h0 : 0 ≤ y) : gi l y = l[y.toNat]? := by
  obtain ⟨k, rfl⟩ := Int.eq_ofNat_of_zero_le h0
  rw [gi_nat]; rfl
def ixI (o : List Int) (y : Int) : Int := bif o.contains y then (o.idxOf y : Int) else -1
def meetY (o : List Int) (y : Int) : List Int := bif o.contains y then o else o ++ [y]
def meetL (o : List Int) (l : List Val) : List Int := (refsOf l).foldl meetY o
def nodeAt (g : Graph) (y : Int) : Node := (g.fNodes[y.toNat]?).getD ⟨⟨#[]⟩, []⟩
def walkR (g : Graph) : Nat → Nat → List Int → List Int
  | 0, _, o => o
  | f + 1, i, o => match o[i]? with
    | some y => walkR g f (i + 1) (meetL o (nodeAt g y).fVals)
    | none => o
def orderR (g : Graph) : List Int := walkR g (g.fNodes.length + 1) 0 (meetL [] g.fRoots)
def mvR (o : List Int) (v : Val) : Val := ⟨v.fKind, bif v.fKind == 4 then ixI o v.fN else v.fN⟩
def nodeR (g : Graph) (o : List Int) (y : Int) : Node := ⟨(nodeAt g y).fClass, (nodeAt g y).fVals.map (mvR o)⟩
def canG (g : Graph) : Graph := ⟨(orderR g).map (nodeR g (orderR g)), g.fRoots.map (mvR (orderR g))⟩
def atL (N : Nat) (o : List Int) : List Int := (List.range N).map fun i => ixI o (i : Nat)
def canAt (g : Graph) : List Int := atL g.fNodes.length (orderR g)
structure OrdOk (N : Nat) (o : List Int) : Prop where
  nd : o.Nodup
  rg : ∀ y ∈ o, 0 ≤ y ∧ y < (N : Int)
theorem OrdOk.nil (N : Nat) : OrdOk N [] := ⟨List.nodup_nil, fun y h => by cases h⟩
theorem nodup_len : ∀ (N : Nat) (o : List Int), o.Nodup → (∀ y ∈ o, 0 ≤ y ∧ y < (N : Int)) → o.length ≤ N
  | 0, o, _, h => by
    cases o with
    | nil => exact Nat.le_refl _
    | cons y o => have := h y (by simp); omega
  | N + 1, o, hd, h => by
    by_cases hm : (N : Int) ∈ o
    · have h1 := nodup_len N (o.erase N) (hd.erase _) (fun y hy => by
        obtain ⟨h2, h3⟩ := (hd.mem_erase_iff).1 hy
        have := h y h3
        omega)
      rw [List.length_erase_of_mem hm] at h1
      omega
    · have := nodup_len N o hd (fun y hy => by
        have h1 := h y hy
        have : y ≠ (N : Int) := fun e => hm (e ▸ hy)
        omega)
      omega
theorem OrdOk.len {N : Nat} {o : List Int} (h : OrdOk N o) : o.length ≤ N := nodup_len N o h.nd h.rg
theorem contains_iff {o : List Int} {y : Int} : o.contains y = true ↔ y ∈ o := by simp
theorem OrdOk.meetY {N : Nat} {o : List Int} {y : Int} (h : OrdOk N o) (hy : 0 ≤ y ∧ y < (N : Int)) : OrdOk N (meetY o y) := by
  unfold Proofs.meetY
  cases hc : o.contains y with
  | true => exact h
  | false =>
    have hm : y ∉ o := fun hm => by rw [contains_iff.2 hm] at hc; cases hc
    refine ⟨?_, fun z hz => ?_⟩
    · rw [cond_false, List.nodup_append]
      exact ⟨h.nd, by simp, fun a ha b hb e => hm (by simp at hb; rw [← hb, ← e]; exact ha)⟩
    · rw [cond_false] at hz
      rcases List.mem_append.1 hz with hz | hz
      · exact h.rg z hz
      · simp at hz; rw [hz]; exact hy
theorem meetY_pre (o : List Int) (y : Int) : o <+: meetY o y := by
  unfold meetY
  cases o.contains y with
  | true => exact List.prefix_refl _
  | false => exact List.prefix_append _ _
theorem meetY_mem (o : List Int) (y : Int) : y ∈ meetY o y := by
  unfold meetY
  cases hc : o.contains y with
  | true => exact contains_iff.1 hc
  | false => simp
def RefOk (N : Nat) (l : List Val) : Prop := ∀ y ∈ refsOf l, 0 ≤ y ∧ y < (N : Int)
theorem foldY_ok {N : Nat} : ∀ (l : List Int) {o : List Int}, OrdOk N o → (∀ y ∈ l, 0 ≤ y ∧ y < (N : Int)) → OrdOk N (l.foldl meetY o)
  | [], o, h, _ => h
  | y :: l, o, h, hl => foldY_ok l (h.meetY (hl y (by simp))) (fun z hz => hl z (by simp [hz]))
theorem foldY_pre : ∀ (l o : List Int), o <+: l.foldl meetY o
  | [], o => List.prefix_refl _
  | y :: l, o => (meetY_pre o y).trans (foldY_pre l _)
theorem foldY_mem : ∀ (l o : List Int) (y : Int), y ∈ l → y ∈ l.foldl meetY o
  | x :: l, o, y, h => by
    rcases List.mem_cons.1 h with rfl | h
    · exact (foldY_pre l _).subset (meetY_mem o y)
    · exact foldY_mem l _ y h
theorem OrdOk.meetL {N : Nat} {o : List Int} {l : List Val} (h : OrdOk N o) (hl : RefOk N l) : OrdOk N (meetL o l) := foldY_ok _ h hl
theorem meetL_pre (o : List Int) (l : List Val) : o <+: meetL o l := foldY_pre _ _
theorem meetL_mem (o : List Int) (l : List Val) : ∀ y ∈ refsOf l, y ∈ meetL o l := fun y h => foldY_mem _ _ y h
structure GraphOk (g : Graph) : Prop where
  rt : RefOk g.fNodes.length g.fRoots
  nd : ∀ x ∈ g.fNodes, RefOk g.fNodes.length x.fVals
theorem nodeAt_mem {g : Graph} {y : Int} (h : 0 ≤ y ∧ y < (g.fNodes.length : Int)) : g.fNodes[y.toNat]? = some (nodeAt g y) ∧ nodeAt g y ∈ g.fNodes := by
  have hlt : y.toNat < g.fNodes.length := by omega
  have e : g.fNodes[y.toNat]? = some (nodeAt g y) := by unfold nodeAt; rw [List.getElem?_eq_getElem hlt]; rfl
  exact ⟨e, List.mem_of_getElem? e⟩
theorem gi_node {g : Graph} {y : Int} (h : 0 ≤ y ∧ y < (g.fNodes.length : Int)) : gi g.fNodes y = some (nodeAt g y) := by rw [gi_of h.1]; exact (nodeAt_mem h).1
theorem GraphOk.vals {g : Graph} (h : GraphOk g) {y : Int} (hy : 0 ≤ y ∧ y < (g.fNodes.length : Int)) : RefOk g.fNodes.length (nodeAt g y).fVals := h.nd _ (nodeAt_mem hy).2
def Closed (g : Graph) (i : Nat) (o : List Int) : Prop := ∀ (j : Nat) (y : Int), j < i → o[j]? = some y → ∀ r ∈ refsOf (nodeAt g y).fVals, r ∈ o
theorem pre_get {α : Type} {o o' : List α} (h : o <+: o') {j : Nat} (hj : j < o.length) : o'[j]? = o[j]? := by
  obtain ⟨t, rfl⟩ := h
  exact List.getElem?_append_left hj
theorem walkR_spec {g : Graph} (hg : GraphOk g) : ∀ (f i : Nat) (o : List Int), OrdOk g.fNodes.length o → i ≤ o.length → g.fNodes.length + 1 ≤ f + i → Closed g i o →
    OrdOk g.fNodes.length (walkR g f i o) ∧ o <+: walkR g f i o ∧ Closed g (walkR g f i o).length (walkR g f i o)
  | 0, i, o, ho, hi, hf, hc => by have := ho.len; omega
  | f + 1, i, o, ho, hi, hf, hc => by
    unfold walkR
    split
    · rename_i y hy
      have hym := List.mem_of_getElem? hy
      have hyr := ho.rg y hym
      have hlt := (List.getElem?_eq_some_iff.1 hy).1
      have hp := meetL_pre o (nodeAt g y).fVals
      have hl := hp.length_le
      obtain ⟨h1, h2, h3⟩ := walkR_spec hg f (i + 1) (meetL o (nodeAt g y).fVals) (ho.meetL (hg.vals hyr)) (by omega) (by omega) (fun j z hj hz r hr => by
        rw [pre_get hp (by omega)] at hz
        by_cases hji : j = i
        · subst hji
          rw [hy] at hz
          simp only [Option.some.injEq] at hz
          subst hz
          exact meetL_mem _ _ r hr
        · exact hp.subset (hc j z (by omega) hz r hr))
      exact ⟨h1, hp.trans h2, h3⟩
    · rename_i hy
      have : o.length ≤ i := by
        rcases Nat.lt_or_ge i o.length with h | h
        · rw [List.getElem?_eq_getElem h] at hy; cases hy
        · exact h
      have : i = o.length := by omega
      subst this
      exact ⟨ho, List.prefix_refl _, hc⟩
theorem orderR_spec {g : Graph} (hg : GraphOk g) : OrdOk g.fNodes.length (orderR g) ∧ (∀ r ∈ refsOf g.fRoots, r ∈ orderR g) ∧ ∀ y ∈ orderR g, ∀ r ∈ refsOf (nodeAt g y).fVals, r ∈ orderR g := by
  obtain ⟨h1, h2, h3⟩ := walkR_spec hg (g.fNodes.length + 1) 0 (meetL [] g.fRoots) ((OrdOk.nil _).meetL hg.rt) (Nat.zero_le _) (by omega) (fun j y hj => by omega)
  refine ⟨h1, fun r hr => h2.subset (meetL_mem _ _ r hr), fun y hy r hr => ?_⟩
  obtain ⟨j, hj, e⟩ := List.getElem_of_mem hy
  exact h3 j y hj ((List.getElem?_eq_getElem (l := orderR g) hj).trans (congrArg some e)) r hr
theorem walkLoop {g : Graph} (hg : GraphOk g) {σ ρ : Type} (S : List Int → σ) (L : Nat → Int → σ → Option ρ) (K : σ → Option ρ)
    (hs : ∀ m (i : Nat) o y, OrdOk g.fNodes.length o → o[i]? = some y → L (m + 1) i (S o) = L m ((i + 1 : Nat) : Int) (S (meetL o (nodeAt g y).fVals)))
    (he : ∀ m o, OrdOk g.fNodes.length o → L (m + 1) o.length (S o) = K (S o)) :
    ∀ (f i n : Nat) (o : List Int), OrdOk g.fNodes.length o → i ≤ o.length → g.fNodes.length + 1 ≤ f + i → f < n → L n i (S o) = K (S (walkR g f i o))
  | 0, i, n, o, ho, hi, hf, hn => by have := ho.len; omega
  | f + 1, i, n, o, ho, hi, hf, hn => by
    obtain ⟨n, rfl⟩ := Nat.exists_eq_succ_of_ne_zero (by omega : n ≠ 0)
    unfold walkR
    split
    · rename_i y hy
      have hyr := ho.rg y (List.mem_of_getElem? hy)
      have hlt := (List.getElem?_eq_some_iff.1 hy).1
      have hl := (meetL_pre o (nodeAt g y).fVals).length_le
      rw [hs n i o y ho hy]
      exact walkLoop hg S L K hs he f (i + 1) n _ (ho.meetL (hg.vals hyr)) (by omega) (by omega) (by omega)
    · rename_i hy
      have : o.length ≤ i := by
        rcases Nat.lt_or_ge i o.length with h | h
        · rw [List.getElem?_eq_getElem h] at hy; cases hy
        · exact h
      have : i = o.length := by omega
      subst this
      exact he n o ho
def mapFrom : Nat → List Int → List (Int × Int)
  | _, [] => []
  | k, y :: o => (y, (k : Int)) :: mapFrom (k + 1) o
def mapOf (o : List Int) : List (Int × Int) := mapFrom 0 o
theorem mget_from (y : Int) : ∀ (k : Nat) (o : List Int), mget y (mapFrom k o) = bif o.contains y then some ((k + o.idxOf y : Nat) : Int) else none
  | k, [] => rfl
  | k, x :: o => by
    simp only [mapFrom, mget, List.contains_cons]
    cases h : (y == x) with
    | true =>
      have : x = y := (eq_of_beq h).symm
      subst this
      simp
    | false =>
      have hne : ¬ x = y := fun e => by subst e; simp at h
      simp only [cond_false, Bool.false_or, mget_from y (k + 1) o, List.idxOf_cons]
      cases o.contains y with
      | true =>
        have : (x == y) = false := by simpa using hne
        simp only [cond_true, this, cond_false]
        congr 2
        omega
      | false => rfl
theorem mset_from (y v : Int) : ∀ (k : Nat) (o : List Int), o.contains y = false → mset y v (mapFrom k o) = mapFrom k o ++ [(y, v)]
  | k, [], _ => rfl
  | k, x :: o, h => by
    simp only [List.contains_cons, Bool.or_eq_false_iff] at h
    simp only [mapFrom, mset, h.1, cond_false, mset_from y v (k + 1) o h.2, List.cons_append]
theorem mapFrom_snoc (y : Int) : ∀ (k : Nat) (o : List Int), mapFrom k (o ++ [y]) = mapFrom k o ++ [(y, ((k + o.length : Nat) : Int))]
  | k, [] => rfl
  | k, x :: o => by
    simp only [List.cons_append, mapFrom, mapFrom_snoc y (k + 1) o, List.length_cons]
    congr 4
    omega
theorem mget_of (o : List Int) (y : Int) : mget y (mapOf o) = bif o.contains y then some ((o.idxOf y : Nat) : Int) else none := by
  unfold mapOf; rw [mget_from]; simp
theorem mset_of {o : List Int} {y : Int} (h : o.contains y = false) : mset y (len o) (mapOf o) = mapOf (o ++ [y]) := by
  unfold mapOf
  rw [mset_from y _ 0 o h, mapFrom_snoc]
  simp [len]
theorem mget_isSome (o : List Int) (y : Int) : (mget y (mapOf o)).isSome = o.contains y := by
  rw [mget_of]; cases o.contains y <;> rfl
theorem mget_ix {o : List Int} {y d : Int} (h : y ∈ o) : (mget y (mapOf o)).getD d = ixI o y := by
  unfold ixI
  rw [mget_of, contains_iff.2 h]; rfl
end Go.Proofs
end
section
set_option linter.unusedVariables false
set_option linter.unusedSimpArgs false
namespace Go.Proofs
open Go.Vm
def InN (N : Nat) (y : Int) : Prop := 0 ≤ y ∧ y < (N : Int)
def tv (t : Int → Int) (v : Val) : Val := ⟨v.fKind, bif v.fKind == 4 then t v.fN else v.fN⟩
structure Renum (t : Int → Int) (g h : Graph) : Prop where
  n : h.fNodes.length = g.fNodes.length
  inj : ∀ y z, InN g.fNodes.length y → InN g.fNodes.length z → t y = t z → y = z
  nd : ∀ y, InN g.fNodes.length y → nodeAt h (t y) = ⟨(nodeAt g y).fClass, (nodeAt g y).fVals.map (tv t)⟩
  rt : h.fRoots = g.fRoots.map (tv t)
  rn : ∀ y, InN g.fNodes.length y → ∀ v ∈ (nodeAt g y).fVals, v.fKind = 4 → InN g.fNodes.length v.fN
  rr : ∀ v ∈ g.fRoots, v.fKind = 4 → InN g.fNodes.length v.fN
section
variable {t : Int → Int} {g h : Graph} {N : Nat}
theorem cont_map {o : List Int} {y : Int} (hi : ∀ z ∈ o, t z = t y → z = y) : (o.map t).contains (t y) = o.contains y := by
  rw [Bool.eq_iff_iff, List.contains_iff_mem, List.contains_iff_mem, List.mem_map]
  constructor
  · rintro ⟨z, h1, h2⟩
    rw [← hi z h1 h2]; exact h1
  · exact fun h => ⟨y, h, rfl⟩
theorem idx_map {y : Int} : ∀ {o : List Int}, (∀ z ∈ o, t z = t y → z = y) → (o.map t).idxOf (t y) = o.idxOf y
  | [], _ => rfl
  | z :: o, hi => by
    rw [List.map_cons, List.idxOf_cons, List.idxOf_cons, idx_map (fun w hw => hi w (List.mem_cons_of_mem _ hw))]
    have : (t z == t y) = (z == y) := by
      rw [Bool.eq_iff_iff, beq_iff_eq, beq_iff_eq]
      exact ⟨hi z List.mem_cons_self, fun h => by rw [h]⟩
    rw [this]
theorem ixI_map {o : List Int} {y : Int} (hi : ∀ z ∈ o, t z = t y → z = y) : ixI (o.map t) (t y) = ixI o y := by
  unfold ixI
  rw [cont_map hi, idx_map hi]
theorem meetY_map {o : List Int} {y : Int} (hi : ∀ z ∈ o, t z = t y → z = y) : meetY (o.map t) (t y) = (meetY o y).map t := by
  unfold meetY
  rw [cont_map hi]
  cases o.contains y <;> simp
theorem meetY_in {o : List Int} {y : Int} (ho : ∀ z ∈ o, InN N z) (hy : InN N y) : ∀ z ∈ meetY o y, InN N z := by
  unfold meetY
  cases o.contains y with
  | true => exact ho
  | false =>
    intro z hz
    rcases List.mem_append.1 hz with h | h
    · exact ho z h
    · rw [List.mem_singleton.1 h]; exact hy
theorem refs_map (l : List Val) : refsOf (l.map (tv t)) = (refsOf l).map t := by
  unfold refsOf
  induction l with
  | nil => rfl
  | cons v l ih =>
    rw [List.map_cons, List.filter_cons, List.filter_cons]
    have h1 : (tv t v).fKind = v.fKind := rfl
    rw [h1]
    cases hk : v.fKind == 4 with
    | false => simpa using ih
    | true =>
      have h2 : (tv t v).fN = t v.fN := by unfold tv; rw [hk]; rfl
      simp only [if_true, List.map_cons, ih, h2]
theorem refs_in {l : List Val} (hl : ∀ v ∈ l, v.fKind = 4 → InN N v.fN) : ∀ y ∈ refsOf l, InN N y := by
  intro y hy
  unfold refsOf at hy
  obtain ⟨v, hv, rfl⟩ := List.mem_map.1 hy
  obtain ⟨h1, h2⟩ := List.mem_filter.1 hv
  exact hl v h1 (eq_of_beq h2)
theorem fold_map (inj : ∀ y z, InN N y → InN N z → t y = t z → y = z) : ∀ (l o : List Int), (∀ y ∈ l, InN N y) → (∀ y ∈ o, InN N y) → (l.map t).foldl meetY (o.map t) = (l.foldl meetY o).map t ∧ ∀ y ∈ l.foldl meetY o, InN N y
  | [], o, _, ho => ⟨rfl, ho⟩
  | y :: l, o, hl, ho => by
    have hy := hl y List.mem_cons_self
    rw [List.map_cons, List.foldl_cons, List.foldl_cons, meetY_map (fun z hz he => inj z y (ho z hz) hy he)]
    exact fold_map inj l (meetY o y) (fun z hz => hl z (List.mem_cons_of_mem _ hz)) (meetY_in ho hy)
theorem meetL_map (inj : ∀ y z, InN N y → InN N z → t y = t z → y = z) {l : List Val} {o : List Int} (hl : ∀ v ∈ l, v.fKind = 4 → InN N v.fN) (ho : ∀ y ∈ o, InN N y) :
    meetL (o.map t) (l.map (tv t)) = (meetL o l).map t ∧ ∀ y ∈ meetL o l, InN N y := by
  unfold meetL
  rw [refs_map]
  exact fold_map inj _ o (refs_in hl) ho
theorem walk_map (r : Renum t g h) : ∀ (f i : Nat) (o : List Int), (∀ y ∈ o, InN g.fNodes.length y) → walkR h f i (o.map t) = (walkR g f i o).map t ∧ ∀ y ∈ walkR g f i o, InN g.fNodes.length y
  | 0, i, o, ho => ⟨rfl, ho⟩
  | f + 1, i, o, ho => by
    unfold walkR
    rw [List.getElem?_map]
    cases hy : o[i]? with
    | none => exact ⟨rfl, ho⟩
    | some y =>
      have hy1 := ho y (List.mem_of_getElem? hy)
      obtain ⟨h1, h2⟩ := meetL_map r.inj (r.rn y hy1) ho
      show walkR h f (i + 1) (meetL (o.map t) (nodeAt h (t y)).fVals) = _ ∧ _
      rw [r.nd y hy1]
      show walkR h f (i + 1) (meetL (o.map t) ((nodeAt g y).fVals.map (tv t))) = _ ∧ _
      rw [h1]
      exact walk_map r f (i + 1) _ h2
theorem order_map (r : Renum t g h) : orderR h = (orderR g).map t ∧ ∀ y ∈ orderR g, InN g.fNodes.length y := by
  unfold orderR
  obtain ⟨h1, h2⟩ := meetL_map (o := []) r.inj r.rr (fun y hy => nomatch hy)
  rw [r.n, r.rt]
  have h1 : meetL [] (g.fRoots.map (tv t)) = (meetL [] g.fRoots).map t := h1
  rw [h1]
  exact walk_map r _ 0 _ h2
theorem mvR_map (inj : ∀ y z, InN N y → InN N z → t y = t z → y = z) {o : List Int} (ho : ∀ y ∈ o, InN N y) {v : Val} (hv : v.fKind = 4 → InN N v.fN) : mvR (o.map t) (tv t v) = mvR o v := by
  unfold mvR tv
  cases hk : v.fKind == 4 with
  | false => rfl
  | true =>
    show (⟨v.fKind, ixI (o.map t) (t v.fN)⟩ : Val) = ⟨v.fKind, ixI o v.fN⟩
    rw [ixI_map fun z hz he => inj z v.fN (ho z hz) (hv (eq_of_beq hk)) he]
theorem canG_renum (r : Renum t g h) : canG h = canG g := by
  obtain ⟨h1, h2⟩ := order_map r
  unfold canG
  rw [h1, r.rt, List.map_map, List.map_map]
  congr 1
  · refine List.map_congr_left fun y hy => ?_
    show nodeR h ((orderR g).map t) (t y) = nodeR g (orderR g) y
    unfold nodeR
    rw [r.nd y (h2 y hy)]
    show (⟨(nodeAt g y).fClass, ((nodeAt g y).fVals.map (tv t)).map (mvR ((orderR g).map t))⟩ : Node) = _
    rw [List.map_map]
    congr 1
    exact List.map_congr_left fun v hv => mvR_map r.inj h2 (r.rn y (h2 y hy) v hv)
  · exact List.map_congr_left fun v hv => mvR_map r.inj h2 (r.rr v hv)
end
end Go.Proofs
end
section
set_option linter.unusedVariables false
set_option linter.unusedSimpArgs false
namespace Go.Proofs
open Go.Vm
theorem mk0_tv {L : List Rule} {t : Int → Int} {g : Give} {a c : Col} {v : Val} (hh : inR g.fHow 1 7 = true) (hf : fitsB L g a c = true)
    (hv : inR g.fHow 1 5 = true → (a.fKind = 1 → v.fKind = 1) ∧ (a.fKind = 2 → v.fKind = 2 ∧ 0 ≤ v.fN ∧ v.fN ≤ 1)) : mk0 g (tv t v) c = (tv t (mk0 g v c).1, (mk0 g v c).2) := by
  obtain ⟨gf, gw, gn⟩ := g
  obtain ⟨an, ak, ac⟩ := a
  obtain ⟨cn, ck, cc⟩ := c
  obtain ⟨vk, vn⟩ := v
  have c1 : gw = 1 ∨ gw = 2 ∨ gw = 3 ∨ gw = 4 ∨ gw = 5 ∨ gw = 6 ∨ gw = 7 := inR17 hh
  unfold fitsB at hf
  generalize leadsB L ac cc = l1 at *
  rcases c1 with rfl | rfl | rfl | rfl | rfl | rfl | rfl <;>
    (simp [cond_eq_ite, inR, mk0, tv] at * <;> grind)
section
variable {α β τ : Type}
theorem fin_map (f : α → β) {mk : Nat → α ⊕ τ} : ∀ (d k : Nat) (s : List α), fin (fun k => (mk k).map f id) d k (s.map f) = (fin mk d k s).map (List.map f) id
  | 0, k, s => rfl
  | d + 1, k, s => by
    show (match (mk k).map f id with | .inl x => fin (fun k => (mk k).map f id) d (k + 1) (s.map f ++ [x]) | .inr t => .inr t) = Sum.map (List.map f) id (match mk k with | .inl x => fin mk d (k + 1) (s ++ [x]) | .inr t => .inr t)
    cases mk k with
    | inr t => rfl
    | inl x =>
      have := fin_map f d (k + 1) (s ++ [x]) (mk := mk)
      rw [List.map_append] at this
      exact this
theorem fin_all {mk : Nat → α ⊕ τ} (d k : Nat) (s : List α) (h : ∀ j, j < d → ∃ x, mk (k + j) = .inl x) : ∃ r, fin mk d k s = .inl r := by
  cases hf : fin mk d k s with
  | inl r => exact ⟨r, rfl⟩
  | inr t =>
    obtain ⟨j, h1, h2, _⟩ := fin_stop d k s hf
    obtain ⟨x, hx⟩ := h j h1
    rw [hx] at h2
    cases h2
end
section
variable {A B : List Form} {L : List Rule} {g h : Graph} {t : Int → Int}
theorem row_tv (hA : FormsOk A) (hr : rulesE A B L = 0) (hg : GoodG A g) {x : Node} (hx : x ∈ g.fNodes) : rowMk A B L ⟨x.fClass, x.fVals.map (tv t)⟩ = (rowMk A B L x).map (List.map (tv t)) id := by
  have ro := ruleOk_of hr (hg.cl x hx)
  unfold rowMk
  have e : ∀ j, j < (formAt B (ruleAt L x.fClass).fTo).fCols.length → valMk A B L ⟨x.fClass, x.fVals.map (tv t)⟩ j = (valMk A B L x j).map (tv t) id := fun j hj => by
    have hj2 : j < (ruleAt L x.fClass).fGives.length := by rw [ro.ln]; exact hj
    have h1 := List.getElem?_eq_getElem hj
    have h2 := List.getElem?_eq_getElem hj2
    have hgv := ro.gv j hj2 hj
    unfold valMk
    show (match (formAt B (ruleAt L x.fClass).fTo).fCols[j]?, (ruleAt L x.fClass).fGives[j]? with
      | some c, some g => outV (madeB g (formAt A x.fClass).fCols (x.fVals.map (tv t)) c) c.fName
      | _, _ => .inr noS) = Sum.map (tv t) id (match (formAt B (ruleAt L x.fClass).fTo).fCols[j]?, (ruleAt L x.fClass).fGives[j]? with
      | some c, some g => outV (madeB g (formAt A x.fClass).fCols x.fVals c) c.fName
      | _, _ => .inr noS)
    rw [h1, h2]
    generalize (formAt B (ruleAt L x.fClass).fTo).fCols[j] = c at *
    generalize (ruleAt L x.fClass).fGives[j] = p at *
    show outV (madeB p (formAt A x.fClass).fCols (x.fVals.map (tv t)) c) c.fName = Sum.map (tv t) id (outV (madeB p (formAt A x.fClass).fCols x.fVals c) c.fName)
    obtain ⟨x7, x5⟩ := giveB_src hgv
    have hget : (gi (x.fVals.map (tv t)) (colIx (formAt A x.fClass).fCols p.fFrom)).getD noV = tv t ((gi x.fVals (colIx (formAt A x.fClass).fCols p.fFrom)).getD noV) := by
      rcases Int.lt_or_le (colIx (formAt A x.fClass).fCols p.fFrom) 0 with hneg | hpos
      · cases hc : colIx (formAt A x.fClass).fCols p.fFrom with
        | ofNat k => rw [hc] at hneg; exact absurd hneg (by simp)
        | negSucc k => rfl
      · obtain ⟨k, hk⟩ := Int.eq_ofNat_of_zero_le hpos
        rw [hk, gi_nat, gi_nat, List.getElem?_map]
        cases x.fVals[k]? <;> rfl
    rw [madeB_mk0, madeB_mk0, hget, mk0_tv x7 (giveB_fit hgv).1 (fun h5 => srcVal hA hg hx h5 (x5 h5))]
    unfold outV
    cases (mk0 p ((gi x.fVals (colIx (formAt A x.fClass).fCols p.fFrom)).getD noV) c).2 <;> rfl
  show fin (valMk A B L ⟨x.fClass, x.fVals.map (tv t)⟩) (formAt B (ruleAt L x.fClass).fTo).fCols.length 0 [] = _
  rw [fin_congr (m2 := fun k => (valMk A B L x k).map (tv t) id) _ 0 [] (fun j _ hj => e j (by omega))]
  exact fin_map (tv t) _ 0 []
end
end Go.Proofs
end
