/- Texts of this claim, one behind the other. -/
import Derived.Test.YtbdgamoicleieaaGreatPhb
set_option linter.unusedVariables false
set_option linter.unusedSimpArgs false
set_option linter.unnecessarySimpa false
section
set_option linter.unusedVariables false
set_option linter.unusedSimpArgs false
namespace Go.Vm
open Go.RowKit
inductive Out where
  | n (s : St)
  | x (id : Nat) (s : St)
  | r (s : St)
def postO (R : St → Prop) (E : Nat → St → Prop) (N : St → Prop) : Out → Prop
  | .n s => N s
  | .x id s => E id s
  | .r s => R s
def bindN (f : St → Option (List Out)) : List Out → Option (List Out)
  | [] => some []
  | .n s :: l => (match f s, bindN f l with | some a, some b => some (a ++ b) | _, _ => none)
  | .x i s :: l => (match bindN f l with | some b => some (.x i s :: b) | none => none)
  | .r s :: l => (match bindN f l with | some b => some (.r s :: b) | none => none)
theorem bindN_get {f : St → Option (List Out)} : ∀ {l os : List Out}, bindN f l = some os → ∀ o ∈ l, (∃ s, o = .n s ∧ ∃ a, f s = some a ∧ ∀ x ∈ a, x ∈ os) ∨ ((∀ s, o ≠ .n s) ∧ o ∈ os)
  | [], os, h, o, ho => by cases ho
  | .n s0 :: l, os, h, o, ho => by
    simp only [bindN] at h
    split at h
    · rename_i a b ha hb
      simp only [Option.some.injEq] at h; subst h
      rcases List.mem_cons.1 ho with rfl | ho
      · exact .inl ⟨_, rfl, _, ha, fun x hx => List.mem_append_left _ hx⟩
      · rcases bindN_get hb o ho with ⟨s, h1, a', h2, h3⟩ | ⟨h1, h2⟩
        · exact .inl ⟨s, h1, a', h2, fun x hx => List.mem_append_right _ (h3 x hx)⟩
        · exact .inr ⟨h1, List.mem_append_right _ h2⟩
    · cases h
  | .x i0 s0 :: l, os, h, o, ho => by
    simp only [bindN] at h
    split at h
    · rename_i b hb
      simp only [Option.some.injEq] at h; subst h
      rcases List.mem_cons.1 ho with rfl | ho
      · exact .inr ⟨fun s e => (by cases e), by simp⟩
      · rcases bindN_get hb o ho with ⟨s, h1, a', h2, h3⟩ | ⟨h1, h2⟩
        · exact .inl ⟨s, h1, a', h2, fun x hx => List.mem_cons_of_mem _ (h3 x hx)⟩
        · exact .inr ⟨h1, List.mem_cons_of_mem _ h2⟩
    · cases h
  | .r s0 :: l, os, h, o, ho => by
    simp only [bindN] at h
    split at h
    · rename_i b hb
      simp only [Option.some.injEq] at h; subst h
      rcases List.mem_cons.1 ho with rfl | ho
      · exact .inr ⟨fun s e => (by cases e), by simp⟩
      · rcases bindN_get hb o ho with ⟨s, h1, a', h2, h3⟩ | ⟨h1, h2⟩
        · exact .inl ⟨s, h1, a', h2, fun x hx => List.mem_cons_of_mem _ (h3 x hx)⟩
        · exact .inr ⟨h1, List.mem_cons_of_mem _ h2⟩
    · cases h
noncomputable def loopE (f : St → Option (List Out)) (n : Nat) : St → Option (List Out) := Nat.rec (motive := fun _ => St → Option (List Out)) (fun _ => none) (fun _ ih s => match f s with | some os => bindN ih os | none => none) n
def blockE (id : Nat) : Out → Out
  | .x i s => match Nat.beq i id with | true => .n s | false => .x i s
  | o => o
def lowO (m : Nat) : Option AObj → Bool
  | some z => belowO m z
  | none => true
theorem wk_take {m : Nat} : ∀ (k : Nat) {hp : Heap}, (hp.take k).all (lowO m) = true → wkHp m hp (hp.take k)
  | 0, hp, _ => by cases hp <;> trivial
  | k + 1, [], _ => trivial
  | k + 1, x :: hp, h => by
    simp only [List.take_succ_cons, List.all_cons, Bool.and_eq_true] at h
    refine ⟨.inr ⟨rfl, ?_⟩, wk_take k h.2⟩
    cases x with
    | none => rfl
    | some z => exact h.1
def cutE (n : Nat) (hp : Heap) : Heap := (hp.take n).map fun x => match x with | some z => (match belowO n z with | true => some z | false => none) | none => none
theorem cutE_ok {n : Nat} : ∀ (k : Nat) (hp : Heap), wkHp n hp ((hp.take k).map fun x => match x with | some z => (match belowO n z with | true => some z | false => none) | none => none)
  | 0, hp => by cases hp <;> trivial
  | k + 1, [] => trivial
  | k + 1, x :: hp => by
    refine ⟨?_, cutE_ok k hp⟩
    cases x with
    | none => exact .inl rfl
    | some z =>
      dsimp only
      split
      · rename_i hb; exact .inr ⟨rfl, hb⟩
      · exact .inl rfl
def rdE (f : St → Option (List Out)) (s : St) (ps : List Nat) (mv : List (Nat × Nat)) (y : List AV) (hp : Heap) : Option Heap := match f ⟨moveAll (setAll s.tm ps y) mv, hp⟩ with
  | some [.n s'] => (match cutE s.hp.length s'.hp with | h => ifB (Nat.beq h.length s.hp.length && lowB s.hp h) (some h))
  | _ => none
def safeE (rd : List AV → Heap → Option Heap) (xs : List (List AV)) : Nat → Heap → Bool
  | 0, _ => true
  | k + 1, hp => xs.all fun y => match rd y hp with | some h => safeE rd xs k h | none => false
def foldE (rd : List AV → Heap → Option Heap) : List (List AV) → Heap → Option Heap
  | [], hp => some hp
  | y :: l, hp => match rd y hp with | some h => foldE rd l h | none => none
theorem foldE_snoc {rd : List AV → Heap → Option Heap} : ∀ {l : List (List AV)} {y : List AV} {hp h h' : Heap}, foldE rd l hp = some h → rd y h = some h' → foldE rd (l ++ [y]) hp = some h'
  | [], y, hp, h, h', e, k => by simp only [foldE, Option.some.injEq] at e; subst e; simp [foldE, k]
  | z :: l, y, hp, h, h', e, k => by
    simp only [foldE] at e
    simp only [List.cons_append, foldE]
    split at e
    · exact foldE_snoc e k
    · cases e
theorem lowOf_refl (h : Heap) : lowOf h h := fun o x hx hn => ⟨x, hx, by cases x <;> first | rfl | cases hn⟩
def EvT : Type := Env → Nat → St → Option (List Out)
noncomputable def bSkip : EvT := fun e L s => some [.n s]
noncomputable def bBad : EvT := fun e L s => none
def bS (o : Option St) : Option (List Out) := match o with | some s' => some [.n s'] | none => none
noncomputable def bOps (l : List IOp) : EvT := fun e L s => bS (evOps e l s)
noncomputable def bDraw (q : List Nat) (l : List DOp) : EvT := fun e L s => ifB (noHoles s.hp q) (match s.hp ++ q.map (fun i => some (.hole i)) with
    | hp => bS (evDraw e [] [hp] l ⟨s.tm, hp⟩))
noncomputable def bSeq (a b : IC) (fa fb : EvT) : EvT := fun e L s => match fa e L s with | some os => bindN (fb e L) os | none => none
def bFork (x y : Option (List Out)) : Option (List Out) := match x, y with | some x, some y => some (x ++ y) | _, _ => none
noncomputable def bCond (c : Arg) (a b : IC) (fa fb : EvT) : EvT := fun e L s => match evq s c with
    | .val (.bool t) => Bool.rec (motive := fun _ => Option (List Out)) (fb e L s) (fa e L s) t
    | .bl => bFork (fa e L s) (fb e L s)
    | _ => none
noncomputable def bBlock (id : Nat) (a : IC) (fa : EvT) : EvT := fun e L s => match fa e L s with | some os => some (os.map (blockE id)) | none => none
noncomputable def bLoop (a : IC) (fa : EvT) : EvT := fun e L s => loopE (fa e L) L s
noncomputable def bExit (id : Nat) : EvT := fun e L s => some [.x id s]
noncomputable def bRet : EvT := fun e L s => some [.r s]
noncomputable def bRf (xs : List (List AV)) (f : St → Option (List Out)) (s : St) (ps : List Nat) (mv : List (Nat × Nat)) : Option (List Out) :=
  ifB ((xs.all fun y => Nat.beq y.length ps.length && y.all fun a => (toV a).isSome) && safeE (rdE f s ps mv) xs xs.length s.hp)
    (match foldE (rdE f s ps mv) xs s.hp with | some h => some [.n ⟨s.tm, h⟩] | none => none)
noncomputable def bRfun (x : Arg) (ps : List Nat) (mv : List (Nat × Nat)) (b : IC) (fb : EvT) : EvT := fun e L s => match evq s x with
    | .fn g caps => (match omap (frzE s.hp [] 9) caps with
      | some caps' => (match e.it g caps' with
        | some xs => bRf xs (fb e L) s ps mv
        | none => none)
      | none => none)
    | _ => none
noncomputable def evI (ic : IC) : EvT := IC.rec (motive := fun _ => EvT) bSkip bBad bOps bDraw bSeq bCond bBlock bLoop bExit bRet bRfun ic
noncomputable def evC (e : Env) (L : Nat) (ic : IC) (s : St) : Option (List Out) := evI ic e L s
theorem evC_ok {e : Env} (he : EnvOk e) (L : Nat) : ∀ (ic : IC) (s : St) (os : List Out), evC e L ic s = some os → ∀ (m0 : Nat) (R : St → Prop) (E : Nat → St → Prop) (N : St → Prop), (∀ o ∈ os, postO R E N o) → vC e.P m0 R ic E N s := by
  intro ic
  induction ic with
  | skip => intro s os h m0 R E N hp; have h : some [Out.n s] = some os := h; simp only [Option.some.injEq] at h; subst h; exact hp (.n s) (by simp)
  | bad => intro s os h; cases h
  | ops l =>
    intro s os h m0 R E N hp
    have h : bS (evOps e l s) = some os := h
    unfold bS at h
    split at h
    · rename_i s' hs
      simp only [Option.some.injEq] at h; subst h
      exact evOps_ok he l s s' hs (hp (.n s') (by simp))
    · cases h
  | draw q l =>
    intro s os h m0 R E N hp
    have h : ifB (noHoles s.hp q) (bS (evDraw e [] [s.hp ++ q.map (fun i => some (.hole i))] l ⟨s.tm, s.hp ++ q.map (fun i => some (.hole i))⟩)) = some os := h
    unfold bS at h
    obtain ⟨h1, h⟩ := ifB_some h
    split at h
    · rename_i s' hs
      simp only [Option.some.injEq] at h; subst h
      exact ⟨h1, evDraw_ok he l _ _ _ s' hs (hp (.n s') (by simp))⟩
    · cases h
  | seq a b iha ihb =>
    intro s os h m0 R E N hp
    have h : (match evC e L a s with | some os => bindN (evC e L b) os | none => none) = some os := h
    split at h
    · rename_i os1 h1
      refine iha s os1 h1 m0 R E _ (fun o ho => ?_)
      rcases bindN_get h o ho with ⟨s', rfl, a', h2, h3⟩ | ⟨h2, h3⟩
      · exact ⟨s', .inl rfl, ihb s' a' h2 m0 R E N (fun x hx => hp x (h3 x hx))⟩
      · cases o with
        | n s => exact (h2 s rfl).elim
        | x id s => exact hp _ h3
        | r s => exact hp _ h3
    · cases h
  | cond c a b iha ihb =>
    intro s os h m0 R E N hp
    have h : (match evq s c with
      | .val (.bool t) => Bool.rec (motive := fun _ => Option (List Out)) (evC e L b s) (evC e L a s) t
      | .bl => bFork (evC e L a s) (evC e L b s)
      | _ => none) = some os := h
    simp only [evq_eq] at h
    simp only [vC]
    split at h
    · rename_i t hc
      simp only [hc]
      cases t with
      | true => simp only [if_true]; exact iha s os h m0 R E N hp
      | false => simp only [Bool.false_eq_true, if_false]; exact ihb s os h m0 R E N hp
    · rename_i hc
      unfold bFork at h
      split at h
      · rename_i x y hx hy
        simp only [Option.some.injEq] at h; subst h
        simp only [hc]
        exact ⟨iha s x hx m0 R E N (fun o ho => hp o (List.mem_append_left _ ho)), ihb s y hy m0 R E N (fun o ho => hp o (List.mem_append_right _ ho))⟩
      · cases h
    · cases h
  | block id a iha =>
    intro s os h m0 R E N hp
    have h : (match evC e L a s with | some os => some (os.map (blockE id)) | none => none) = some os := h
    split at h
    · rename_i os1 h1
      simp only [Option.some.injEq] at h; subst h
      refine iha s os1 h1 m0 R _ N (fun o ho => ?_)
      have h2 := hp (blockE id o) (List.mem_map_of_mem ho)
      cases o with
      | n s => exact h2
      | r s => exact h2
      | x i s =>
        simp only [blockE] at h2
        simp only [postO]
        split at h2
        · rename_i hb; rw [if_pos (Nat.eq_of_beq_eq_true hb)]; exact h2
        · rename_i hb
          rw [if_neg (fun hi => by rw [hi, Nat.beq_refl] at hb; cases hb)]; exact h2
    · cases h
  | loop a iha =>
    intro s os h m0 R E N hp
    have h : loopE (evC e L a) L s = some os := h
    refine ⟨fun m s => ∃ os, loopE (evC e L a) m s = some os ∧ ∀ o ∈ os, postO R E (fun _ => False) o ∨ ∃ s, o = .n s, ⟨L, s, .inl rfl, os, h, fun o ho => ?_⟩, ?_⟩
    · cases o with
      | n s => exact .inr ⟨s, rfl⟩
      | x id s => exact .inl (hp _ ho)
      | r s => exact .inl (hp _ ho)
    · rintro m s ⟨os, h, hp⟩
      cases m with
      | zero => cases h
      | succ m =>
        have h : (match evC e L a s with | some os => bindN (loopE (evC e L a) m) os | none => none) = some os := h
        split at h
        · rename_i os1 h1
          refine iha s os1 h1 m0 R E _ (fun o ho => ?_)
          rcases bindN_get h o ho with ⟨s', rfl, a', h2, h3⟩ | ⟨h2, h3⟩
          · exact ⟨m, by omega, s', .inl rfl, a', h2, fun o ho => hp o (h3 o ho)⟩
          · rcases hp o h3 with h4 | ⟨s', h4⟩
            · cases o with
              | n s => exact (h2 s rfl).elim
              | x id s => exact h4
              | r s => exact h4
            · exact (h2 s' h4).elim
        · cases h
  | exit id => intro s os h m0 R E N hp; have h : some [Out.x id s] = some os := h; simp only [Option.some.injEq] at h; subst h; exact hp (.x id s) (by simp)
  | ret => intro s os h m0 R E N hp; have h : some [Out.r s] = some os := h; simp only [Option.some.injEq] at h; subst h; exact hp (.r s) (by simp)
  | rfun x ps mv b ihb =>
    intro s os h m0 R E N hp
    have h : (match evq s x with
      | .fn g caps => (match omap (frzE s.hp [] 9) caps with
        | some caps' => (match e.it g caps' with
          | some xs => bRf xs (evC e L b) s ps mv
          | none => none)
        | none => none)
      | _ => none) = some os := h
    simp only [evq_eq, bRf] at h
    split at h
    · rename_i g caps hx
      split at h
      · rename_i caps' hc
        split at h
        · rename_i xs hxs
          obtain ⟨h1, h⟩ := ifB_some h
          simp only [Bool.and_eq_true] at h1
          split at h
          · rename_i hfin hf
            simp only [Option.some.injEq] at h; subst h
            generalize hrd : rdE (evC e L b) s ps mv = rd at h1 hf
            refine ⟨g, caps, caps', xs, fun ys hp => foldE rd ys s.hp = some hp ∧ safeE rd xs (xs.length - ys.length) hp = true ∧ hp.length = s.hp.length ∧ lowOf s.hp hp, hx, frzEL_ok hc, he.it _ _ _ hxs, fun y hy => ?_, ⟨rfl, by simpa using h1.2, rfl, lowOf_refl _⟩, fun ys hp hJ => hJ.2.2, ?_, ?_⟩
            · have := List.all_eq_true.1 h1.1 y hy
              simp only [Bool.and_eq_true, nbq] at this
              exact ⟨this.1, List.all_eq_true.1 this.2⟩
            · rintro ys y hp0 ⟨j1, j2, j3, j4⟩ hy hlt
              have e1 : xs.length - ys.length = (xs.length - (ys ++ [y]).length) + 1 := by simp; omega
              rw [e1] at j2
              simp only [safeE] at j2
              have j5 := List.all_eq_true.1 j2 y hy
              split at j5
              · rename_i h' hr
                have hr' := hr
                rw [← hrd] at hr'
                unfold rdE at hr'
                split at hr'
                · rename_i s' hs'
                  simp only at hr'
                  obtain ⟨k1, k2⟩ := ifB_some hr'
                  simp only [Bool.and_eq_true, nbq] at k1
                  simp only [Option.some.injEq] at k2
                  refine ihb _ _ hs' _ _ _ _ (fun o ho => ?_)
                  simp only [List.mem_cons, List.not_mem_nil, or_false] at ho
                  subst ho
                  refine ⟨h', ⟨by rw [← k2]; exact k1.1, by rw [← k2]; exact cutE_ok _ _⟩, foldE_snoc j1 hr, j5, by rw [← k2]; exact k1.1, by rw [← k2]; exact lowB_ok k1.2⟩
                · cases hr'
              · cases j5
            · rintro hp0 ⟨j1, _⟩
              rw [hf] at j1
              simp only [Option.some.injEq] at j1
              subst j1
              exact hp (.n _) (by simp)
          · cases h
        · cases h
      · cases h
    · cases h
def outS : Out → Option St
  | .n s | .r s => some s
  | .x .. => none
noncomputable def retE (P : Program) (rs : List ResultVar) (s : St) : Option AV := match rs.mapM (resA P s) with
  | some az => (match omap (frzE s.hp (az.flatMap (tE s.hp 9)) 9) az with | some bs => some (packA bs) | none => none)
  | none => none
def oneOf {α : Type} (q : α → α → Bool) (f : St → Option α) : List Out → Option α
  | [] => none
  | o :: l => match outS o with
    | some s => (match f s with
      | some r => ifB (l.all fun o => match outS o with | some s => (match f s with | some r' => q r' r | none => false) | none => false) (some r)
      | none => none)
    | none => none
theorem oneOf_ok {α : Type} {q : α → α → Bool} (hq : ∀ a b, q a b = true → a = b) {f : St → Option α} {os : List Out} {r : α} (h : oneOf q f os = some r) : ∀ o ∈ os, ∃ s, outS o = some s ∧ f s = some r := by
  cases os with
  | nil => cases h
  | cons o l =>
    simp only [oneOf] at h
    split at h
    · rename_i s hs
      split at h
      · rename_i r0 hr
        obtain ⟨h1, h⟩ := ifB_some h
        simp only [Option.some.injEq] at h; subst h
        intro o' ho
        rcases List.mem_cons.1 ho with rfl | ho
        · exact ⟨s, hs, hr⟩
        · have h2 := List.all_eq_true.1 h1 o' ho
          split at h2
          · rename_i s' hs'
            split at h2
            · rename_i r' hr'
              exact ⟨s', hs', by rw [hr', hq _ _ h2]⟩
            · cases h2
          · cases h2
      · cases h
    · cases h
def hpE (m0 : Nat) (az : List AV) (hp : Heap) : Nat := match az.all (belowA m0) && (hp.take m0).all (lowO m0) with
  | true => m0
  | false => hp.length
noncomputable def retHE (P : Program) (rs : List ResultVar) (m0 : Nat) (s : St) : Option (AV × Heap) := match rs.mapM (resA P s) with
  | some az => (match s.hp.take (hpE m0 az s.hp) with
    | hp' => ifB (Nat.ble m0 hp'.length && az.all (belowA hp'.length) && hp'.all (lowO hp'.length)) (some (packA az, hp')))
  | none => none
theorem wkTm_refl {m : Nat} : ∀ {l : List AV}, l.all (belowA m) = true → wkTm m l l
  | [], _ => trivial
  | a :: l, h => by
    simp only [List.all_cons, Bool.and_eq_true] at h
    exact ⟨.inr ⟨rfl, h.1⟩, wkTm_refl h.2⟩
noncomputable def runPE (P : Program) (e : Env) (L : Nat) (H : Hint) (f : Nat) (az : List AV) : Option AV := match fnIC P H f with
  | some (rs, n, ic) => (match evC e L ic (start n az []) with | some os => oneOf (aeq 9) (retE P rs) os | none => none)
  | none => none
noncomputable def runHE (P : Program) (e : Env) (L : Nat) (H : Hint) (f : Nat) (az : List AV) (hp : Heap) : Option (AV × Heap) := match fnIC P H f with
  | some (rs, n, ic) => (match evC e L ic (start n az hp) with | some os => oneOf (fun a b => aeq 9 a.1 b.1 && leq oeq a.2 b.2) (retHE P rs hp.length) os | none => none)
  | none => none
theorem runPE_ok {e : Env} (he : EnvOk e) (hmix : e.P.follows .mixedOrders = true) {L : Nat} {H : Hint} {f : Nat} {az : List AV} {r : AV} (h : runPE e.P e L H f az = some r) : PureSpec e.P f az r := by
  unfold runPE at h
  split at h
  · rename_i rs n ic hf
    split at h
    · rename_i os ho
      have key := oneOf_ok (fun a b => aeq_ok 9 a b) h
      have fin : ∀ s, retE e.P rs s = some r → retP e.P rs r s := fun s hs => by
        unfold retE at hs
        split at hs
        · rename_i us hu
          split at hs
          · rename_i bs hb
            simp only [Option.some.injEq] at hs
            exact ⟨us, bs, _, hu, frzEL_ok hb, hs⟩
          · cases hs
        · cases hs
      refine pure_of hmix hf (evC_ok he L ic _ os ho 0 _ _ _ (fun o hm => ?_))
      obtain ⟨s, h1, h2⟩ := key o hm
      cases o with
      | n s' => simp only [outS, Option.some.injEq] at h1; subst h1; exact fin _ h2
      | r s' => simp only [outS, Option.some.injEq] at h1; subst h1; exact fin _ h2
      | x id s' => cases h1
    · cases h
  · cases h
theorem runHE_ok {e : Env} (he : EnvOk e) (hmix : e.P.follows .mixedOrders = true) {L : Nat} {H : Hint} {f : Nat} {az : List AV} {hp hp' : Heap} {r : AV} (h : runHE e.P e L H f az hp = some (r, hp')) : HSpec e.P f az hp r hp' := by
  unfold runHE at h
  split at h
  · rename_i rs n ic hf
    split at h
    · rename_i os ho
      have key := oneOf_ok (fun a b hab => by
        simp only [Bool.and_eq_true] at hab
        exact Prod.ext (aeq_ok _ _ _ hab.1) (leq_ok oeq_ok hab.2)) h
      have fin : ∀ s, retHE e.P rs hp.length s = some (r, hp') → retH e.P rs hp.length r hp' s := fun s hs => by
        unfold retHE at hs
        split at hs
        · rename_i us hu
          simp only at hs
          obtain ⟨k1, k2⟩ := ifB_some hs
          simp only [Bool.and_eq_true] at k1
          simp only [Option.some.injEq, Prod.mk.injEq] at k2
          obtain ⟨rfl, rfl⟩ := k2
          exact ⟨us, us, hu, ⟨Nat.le_of_ble_eq_true k1.1.1, wkTm_refl k1.1.2, wk_take _ k1.2⟩, rfl⟩
        · cases hs
      refine heap_of hmix hf (evC_ok he L ic _ os ho _ _ _ _ (fun o hm => ?_))
      obtain ⟨s, h1, h2⟩ := key o hm
      cases o with
      | n s' => simp only [outS, Option.some.injEq] at h1; subst h1; exact fin _ h2
      | r s' => simp only [outS, Option.some.injEq] at h1; subst h1; exact fin _ h2
      | x id s' => cases h1
    · cases h
  · cases h
def orE (a b : Option AV) : Option AV := match a with | some r => some r | none => b
noncomputable def envE (P : Program) (hs : Nat → Bool) (Hf : Nat → Hint) (it : Nat → List AV → Option (List (List AV))) (mm : Nat → List AV → Option AV) (L : Nat) (n : Nat) : Env :=
  Nat.rec (motive := fun _ => Env) ⟨P, hs, mm, fun _ _ _ => none, it⟩
    (fun _ e => ⟨P, hs, fun f us => orE (mm f us) (runPE P e L (Hf f) f us), fun f us hp => runHE P e L (Hf f) f us hp, it⟩) n
section
variable {P : Program} {hs : Nat → Bool} {Hf : Nat → Hint} {it : Nat → List AV → Option (List (List AV))} {mm : Nat → List AV → Option AV} {L : Nat}
theorem envE_P (n : Nat) : (envE P hs Hf it mm L n).P = P := by cases n <;> rfl
theorem envE_ok (hmix : P.follows .mixedOrders = true) (hit : ∀ g caps xs, it g caps = some xs → IterSpec P g caps xs) (hmm : ∀ f us r, mm f us = some r → PureSpec P f us r) : ∀ n, EnvOk (envE P hs Hf it mm L n)
  | 0 => ⟨hmm, fun f us hp r hp' h => (by cases h), hit⟩
  | n + 1 => by
    have ih := envE_ok hmix hit hmm n
    refine ⟨fun f us r h => ?_, fun f us hp r hp' h => ?_, hit⟩
    · have h : orE (mm f us) (runPE P (envE P hs Hf it mm L n) L (Hf f) f us) = some r := h
      unfold orE at h
      split at h
      · rename_i hk
        rw [← Option.some.inj h]
        exact hmm _ _ _ hk
      · have := runPE_ok ih (by rw [envE_P]; exact hmix) (L := L) (H := Hf f) (f := f) (az := us) (r := r) (by rw [envE_P]; exact h)
        rw [envE_P] at this
        exact this
    · have h : runHE P (envE P hs Hf it mm L n) L (Hf f) f us hp = some (r, hp') := h
      have := runHE_ok ih (by rw [envE_P]; exact hmix) (L := L) (H := Hf f) (f := f) (az := us) (hp := hp) (r := r) (hp' := hp') (by rw [envE_P]; exact h)
      rw [envE_P] at this
      exact this
end
end Go.Vm
end
section
namespace Go.Proofs
open Go.Vm
def hsE (f : Nat) : Bool := [35, 109, 62, 23, 76, 103, 105].contains f
def HfE (f : Nat) : Hint := ⟨[35, 109, 62, 23], match f with | 922 => [5] | 35 => [5] | 73 => [115] | 11 => [117] | 23 => [6] | 65 => [68, 38, 66] | 10 => [47, 52] | _ => [], match f with | 10 => false | _ => true⟩
def valE : List AV → Option Val
  | [.val (.int .i64 k), .val (.int .i64 n)] => some ⟨k, n⟩
  | _ => none
def itE (g : Nat) (caps : List AV) : Option (List (List AV)) := match g, caps with
  | 130, [.iptr [.sl xs]] => (match omap valE xs with | some l => some ((refsOf l).map cI) | none => none)
  | _, _ => none
theorem itE_ok : ∀ g caps xs, itE g caps = some xs → IterSpec Tryz.prog g caps xs := by
  intro g caps xs h
  unfold itE at h
  split at h
  · rename_i xs
    split at h
    · rename_i l hl
      simp only [Option.some.injEq] at h; subst h
      have e : xs = l.map Val.c := by
        rw [omap_eq] at hl
        obtain ⟨m1, m2⟩ := mapM_some hl
        apply List.ext_getElem?
        intro i
        rw [List.getElem?_map]
        rcases Nat.lt_or_ge i xs.length with hi | hi
        · obtain ⟨c, hc, hcc⟩ := m2 i xs[i] (List.getElem?_eq_getElem hi)
          rw [hc, List.getElem?_eq_getElem hi]
          unfold valE at hcc
          split at hcc
          · rename_i k n hn
            simp only [Option.some.injEq] at hcc
            rw [hn, ← hcc]; rfl
          · cases hcc
        · rw [List.getElem?_eq_none hi, List.getElem?_eq_none (by omega)]; rfl
      rw [e]
      exact iter136 l
    · cases h
  · cases h
set_option maxRecDepth 100000 in
theorem sanity15 : PureSpec Tryz.prog 10 [] (.val (.bool true)) := by
  have h := (envE_ok (P := Tryz.prog) (hs := hsE) (Hf := HfE) (it := itE) (mm := fun _ _ => none) (L := 1000) (by kernel_rfl) itE_ok (fun _ _ _ h => by cases h) 40).pf 10 [] (.val (.bool true)) (by kernel_rfl)
  rw [envE_P] at h
  exact h
end Go.Proofs
end
section
set_option linter.unusedVariables false
set_option maxRecDepth 100000
set_option maxHeartbeats 4000000
namespace Go.Proofs
open Go.Vm
attribute [local irreducible] vOps vDraw vC vK retP retH PureSpec HSpec
theorem ic7 : fnIC Tryz.prog H0 7 = some ([.tmp 2], 79, (.seq (.ops [zO 2 (.mov (.c (.bool false)))]) (.seq (.seq (.ops [zO 3 (.mov (.c (.int .i64 0)))]) (.block 0 (.loop (.seq (.seq (.ops [zM 6 3, zM 7 0, zO 8 (.len false (.t 7)), zO 9 (.sc (.bin .lss 3) [(.t 6), (.t 8)])]) (.cond (.t 9)
  .skip
  (.exit 0))) (.seq (.block 1 (.seq (.ops [zM 12 0, zM 13 3, zO 14 (.iaddr 2 (.t 12) (.t 13)), zO 15 (.faddr (.t 14) 1), zO 16 (.ld (.t 15) 1 false), zO 17 (.len false (.t 16)), zM 4 17]) (.seq (.seq (.ops [zM 18 0, zM 19 3, zO 20 (.iaddr 2 (.t 18) (.t 19)), zO 21 (.faddr (.t 20) 0), zO 22 (.ld (.t 21) 1 false), zO 23 (.len true (.t 22)), zO 24 (.sc (.bin .gtr 3) [(.t 23), (.c (.int .i64 30))]), zM 25 24, zN 26 25 false 4, zG 27 25 false (.sc (.bin .gtr 3) [(.t 26), (.c (.int .i64 6))]), zN 28 25 false 27, zN 29 28 true 4, zG 30 28 true (.sc (.bin .leq 3) [(.t 29), (.c (.int .i64 30))]), zG 31 25 false (.pick (.t 28) (.t 30) (.c (.bool false))), zO 32 (.pick (.t 25) (.c (.bool true)) (.t 31)), zM 33 32, zN 34 33 false 4, zG 35 33 false (.sc (.bin .gtr 3) [(.t 34), (.c (.int .i64 40))]), zO 36 (.pick (.t 33) (.c (.bool true)) (.t 35))]) (.cond (.t 36)
  (.seq (.ops [zO 2 (.mov (.c (.bool false)))]) .ret)
  .skip)) (.seq (.ops [zO 5 (.mov (.c (.int .i64 0)))]) (.block 2 (.loop (.seq (.seq (.ops [zM 37 5, zM 38 4, zO 39 (.sc (.bin .lss 3) [(.t 37), (.t 38)])]) (.cond (.t 39)
  .skip
  (.exit 2))) (.seq (.block 3 (.seq (.ops [zM 42 0, zM 43 3, zO 44 (.iaddr 2 (.t 42) (.t 43)), zO 45 (.faddr (.t 44) 1), zO 46 (.ld (.t 45) 1 false), zM 47 5, zO 48 (.iaddr 3 (.t 46) (.t 47)), zO 49 (.faddr (.t 48) 0), zO 50 (.ld (.t 49) 1 false), zO 51 (.len true (.t 50)), zO 52 (.sc (.bin .gtr 3) [(.t 51), (.c (.int .i64 30))]), zM 53 52, zN 54 53 false 0, zN 55 53 false 3, zG 56 53 false (.iaddr 2 (.t 54) (.t 55)), zG 57 53 false (.faddr (.t 56) 1), zG 58 53 false (.ld (.t 57) 1 false), zN 59 53 false 5, zG 60 53 false (.iaddr 3 (.t 58) (.t 59)), zG 61 53 false (.faddr (.t 60) 2), zG 62 53 false (.ld (.t 61) 1 false), zG 63 53 false (.len true (.t 62)), zG 64 53 false (.sc (.bin .gtr 3) [(.t 63), (.c (.int .i64 30))]), zO 65 (.pick (.t 53) (.c (.bool true)) (.t 64))]) (.cond (.t 65)
  (.seq (.ops [zO 2 (.mov (.c (.bool false)))]) .ret)
  .skip))) (.ops [zM 40 5, zO 41 (.sc (.bin .add 3) [(.t 40), (.c (.int .i64 1))]), zM 5 41]))))))))) (.ops [zM 10 3, zO 11 (.sc (.bin .add 3) [(.t 10), (.c (.int .i64 1))]), zM 3 11])))))) (.seq (.ops [zM 66 0, zO 67 (.len false (.t 66)), zO 68 (.sc (.bin .leq 3) [(.t 67), (.c (.int .i64 6))]), zM 69 68, zN 70 69 false 0, zG 71 69 false (.len false (.t 70)), zG 72 69 false (.sc (.bin .gtr 3) [(.t 71), (.c (.int .i64 24))]), zN 73 69 false 72, zN 74 73 true 0, zG 75 73 true (.len false (.t 74)), zG 76 73 true (.sc (.bin .leq 3) [(.t 75), (.c (.int .i64 30))]), zG 77 69 false (.pick (.t 73) (.t 76) (.c (.bool false))), zO 78 (.pick (.t 69) (.c (.bool true)) (.t 77)), zM 2 78]) .ret)))) := by kernel_rfl
def f13_k115 (x109 : Int) (c90k : Int → Option Bool) (x125 : Bool) : Option Bool := (bif x125 then some false else (c90k (wr .i64 (x109 + 1))))
def f13_k72 (x67 : Int) (c6k : Int → Option Bool) : Option Bool := (c6k (wr .i64 (x67 + 1)))
def f13_l90 (x75 : Form) (a1 : (List Form)) (x67 : Int) (k72k : Option Bool) : Nat → Int → Option Bool
  | 0, _ => none
  | m90 + 1, x109 => (bif (decide (x109 < (len x75.fCols))) then ((gi a1 x67).bind fun x116 => ((gi x116.fCols x109).bind fun x118 => (bif (decide ((bsz x118.fName) > 30)) then (f13_k115 x109 (f13_l90 x75 a1 x67 (k72k) m90) true) else ((gi a1 x67).bind fun x121 => ((gi x121.fCols x109).bind fun x123 => (f13_k115 x109 (f13_l90 x75 a1 x67 (k72k) m90) (decide ((bsz x123.fClass) > 30)))))))) else (k72k))
def f13_k79 (n : Nat) (x75 : Form) (a1 : (List Form)) (x67 : Int) (c6k : Int → Option Bool) (x85 : Bool) : Option Bool := (bif x85 then some false else (f13_l90 x75 a1 x67 (f13_k72 x67 (c6k)) n 0))
def f13_k128 (x134 : Bool) : Option Bool := some x134
def f13_k3 (a1 : (List Form)) : Option Bool := (bif (decide ((len a1) ≤ 6)) then (f13_k128 true) else (bif (decide ((len a1) > 24)) then (f13_k128 (decide ((len a1) ≤ 30))) else (f13_k128 false)))
def f13_l6 (a1 : (List Form)) (n : Nat) (k3k : Option Bool) : Nat → Int → Option Bool
  | 0, _ => none
  | m6 + 1, x67 => (bif (decide (x67 < (len a1))) then ((gi a1 x67).bind fun x75 => ((gi a1 x67).bind fun x80 => (bif (decide ((bsz x80.fName) > 30)) then (f13_k79 n x75 a1 x67 (f13_l6 a1 n (k3k) m6) true) else (bif (decide ((len x75.fCols) > 6)) then (bif (decide ((len x75.fCols) ≤ 30)) then (f13_k79 n x75 a1 x67 (f13_l6 a1 n (k3k) m6) true) else (f13_k79 n x75 a1 x67 (f13_l6 a1 n (k3k) m6) (decide ((len x75.fCols) > 40)))) else (f13_k79 n x75 a1 x67 (f13_l6 a1 n (k3k) m6) (decide ((len x75.fCols) > 40))))))) else (k3k))
def f13 (n : Nat) (a1 : (List Form)) : Option Bool := (f13_l6 a1 n (f13_k3 a1) n 0)
def f13_r (r : Bool) : AV := (vB r)
theorem p_f13 {n : Nat} {a1 : (List Form)} {r : Bool} (h : f13 n a1 = some r) : PureSpec Tryz.prog 7 [(vL Form.c a1)] (f13_r r) := by
 rw [f13.eq_1] at h
 refine pure_of hmix ic7 ?_
 refine go_to (mkd (.val undef) 79 0 [(0, (vL Form.c a1))]) ?_
 refine s_so fun N2 k2 w2 => ?_
 refine o_r1 [(2, (vB false))] ?_
 refine o_end (k2 _ ?_)
 refine J0 (r := r) ⟨(mkd .any 79 0 [(0, (vL Form.c a1))]), []⟩ (f13_k3 a1) ?_ ?_
 · intro h
   rw [f13_k3.eq_1] at h
   refine J1 (r := r) (fun (x134 : Bool) => ⟨(mkd .any 79 0 [(2, (vB x134))]), []⟩) (f13_k128) ?_ ?_
   · intro x134 h
     rw [f13_k128.eq_1] at h
     exact c_ret (rets [] [(vB x134)] [(vB x134)] h)
   · intro N128 w128
     refine c_ops ?_
     refine o_r1 [(66, (vL Form.c a1))] ?_
     refine o_o (one_len (f := Form.c) (l := a1)) ?_
     refine o_r2 [(68, (vB (decide ((len a1) ≤ 6)))), (69, (vB (decide ((len a1) ≤ 6))))] ?_
     refine i_o [68, 69] h (fun h => ?_) (fun h => ?_)
     · refine o_r10 [(2, (vB true)), (70, (.val undef)), (71, (.val undef)), (72, (.val undef)), (73, (.val undef)), (74, (.val undef)), (75, (.val undef)), (76, (.val undef)), (77, (.val undef)), (78, (vB true))] ?_
       exact o_end (w128 _ _ (wkm [2] wh_nil) h)
     · refine o_r1 [(70, (vL Form.c a1))] ?_
       refine o_g ?_
       refine o_o (one_len (f := Form.c) (l := a1)) ?_
       refine o_r2 [(72, (vB (decide ((len a1) > 24)))), (73, (vB (decide ((len a1) > 24))))] ?_
       refine i_o [72, 73] h (fun h => ?_) (fun h => ?_)
       · refine o_r1 [(74, (vL Form.c a1))] ?_
         refine o_g ?_
         refine o_o (one_len (f := Form.c) (l := a1)) ?_
         refine o_r4 [(2, (vB (decide ((len a1) ≤ 30)))), (76, (vB (decide ((len a1) ≤ 30)))), (77, (vB (decide ((len a1) ≤ 30)))), (78, (vB (decide ((len a1) ≤ 30))))] ?_
         exact o_end (w128 _ _ (wkm [2] wh_nil) h)
       · refine o_r6 [(2, (vB false)), (74, (.val undef)), (75, (.val undef)), (76, (.val undef)), (77, (vB false)), (78, (vB false))] ?_
         exact o_end (w128 _ _ (wkm [2] wh_nil) h)
 · intro N3 w3
   refine s_so fun N4 k4 w4 => ?_
   refine o_r1 [(3, (vI 0))] ?_
   refine o_end (k4 _ ?_)
   refine c_block fun E5 hE5 hO5 => ?_
   refine W1 (fun (x67 : Int) => ⟨(mkd .any 79 0 [(0, (vL Form.c a1)), (3, (vI x67))]), []⟩) (f13_l6 a1 n (f13_k3 a1)) h (wkm [0, 3] wh_nil) (by intros; rw [f13_l6.eq_1]) ?_
   intro m6 x67 h N6 w6
   rw [f13_l6.eq_2] at h
   refine s_seq fun N68 k68 w68 => ?_
   refine s_so fun N69 k69 w69 => ?_
   refine o_r2 [(6, (vI x67)), (7, (vL Form.c a1))] ?_
   refine o_o (one_len (f := Form.c) (l := a1)) ?_
   refine o_r1 [(9, (vB (decide (x67 < (len a1)))))] ?_
   refine o_end (k69 _ ?_)
   refine i_c [9] h (fun h => ?_) (fun h => ?_)
   · refine c_skip (k68 _ ?_)
     refine J0 (r := r) ⟨(mkd .any 79 0 [(0, (vL Form.c a1)), (3, (vI x67))]), []⟩ (f13_k72 x67 (f13_l6 a1 n (f13_k3 a1) m6)) ?_ ?_
     · intro h
       rw [f13_k72.eq_1] at h
       refine c_ops ?_
       refine o_r3 [(3, (vI (wr .i64 (x67 + 1)))), (10, (vI x67)), (11, (vI (wr .i64 (x67 + 1))))] ?_
       exact o_end (w6 _ _ (wkm [0, 3] wh_nil) h)
     · intro N72 w72
       refine c_block fun E73 hE73 hO73 => ?_
       refine s_so fun N74 k74 w74 => ?_
       refine o_r2 [(12, (vL Form.c a1)), (13, (vI x67))] ?_
       refine bnd h fun x75 g76 h => ?_
       refine o_o (one_ia (f := Form.c) (ki := .i64) g76) ?_
       refine o_r2 [(15, (.iptr [(vL Col.c x75.fCols)])), (16, (vL Col.c x75.fCols))] ?_
       refine o_o (one_len (f := Col.c) (l := x75.fCols)) ?_
       refine o_r1 [(4, (vI (len x75.fCols)))] ?_
       refine o_end (k74 _ ?_)
       refine s_seq fun N78 k78 w78 => ?_
       refine J1 (r := r) (fun (x85 : Bool) => ⟨(mkd .any 79 0 [(0, (vL Form.c a1)), (3, (vI x67)), (4, (vI (len x75.fCols))), (36, (vB x85))]), []⟩) (f13_k79 n x75 a1 x67 (f13_l6 a1 n (f13_k3 a1) m6)) ?_ ?_
       · intro x85 h
         rw [f13_k79.eq_1] at h
         refine i_c [36] h (fun h => ?_) (fun h => ?_)
         · refine s_so fun N87 k87 w87 => ?_
           refine o_r1 [(2, (vB false))] ?_
           refine o_end (k87 _ ?_)
           exact c_ret (rets [] [(vB false)] [(vB false)] h)
         · refine c_skip (k78 _ ?_)
           refine s_so fun N88 k88 w88 => ?_
           refine o_r1 [(5, (vI 0))] ?_
           refine o_end (k88 _ ?_)
           refine c_block fun E89 hE89 hO89 => ?_
           refine W1 (fun (x109 : Int) => ⟨(mkd .any 79 0 [(0, (vL Form.c a1)), (3, (vI x67)), (4, (vI (len x75.fCols))), (5, (vI x109))]), []⟩) (f13_l90 x75 a1 x67 (f13_k72 x67 (f13_l6 a1 n (f13_k3 a1) m6))) h (wkm [0, 3, 4, 5] wh_nil) (by intros; rw [f13_l90.eq_1]) ?_
           intro m90 x109 h N90 w90
           rw [f13_l90.eq_2] at h
           refine s_seq fun N110 k110 w110 => ?_
           refine s_so fun N111 k111 w111 => ?_
           refine o_r3 [(37, (vI x109)), (38, (vI (len x75.fCols))), (39, (vB (decide (x109 < (len x75.fCols)))))] ?_
           refine o_end (k111 _ ?_)
           refine i_c [39] h (fun h => ?_) (fun h => ?_)
           · refine c_skip (k110 _ ?_)
             refine s_seq fun N113 k113 w113 => ?_
             refine c_block fun E114 hE114 hO114 => ?_
             refine J1 (r := r) (fun (x125 : Bool) => ⟨(mkd .any 79 0 [(0, (vL Form.c a1)), (3, (vI x67)), (4, (vI (len x75.fCols))), (5, (vI x109)), (65, (vB x125))]), []⟩) (f13_k115 x109 (f13_l90 x75 a1 x67 (f13_k72 x67 (f13_l6 a1 n (f13_k3 a1) m6)) m90)) ?_ ?_
             · intro x125 h
               rw [f13_k115.eq_1] at h
               refine i_c [65] h (fun h => ?_) (fun h => ?_)
               · refine s_so fun N127 k127 w127 => ?_
                 refine o_r1 [(2, (vB false))] ?_
                 refine o_end (k127 _ ?_)
                 exact c_ret (rets [] [(vB false)] [(vB false)] h)
               · refine c_skip (k113 _ ?_)
                 refine c_ops ?_
                 refine o_r3 [(5, (vI (wr .i64 (x109 + 1)))), (40, (vI x109)), (41, (vI (wr .i64 (x109 + 1))))] ?_
                 exact o_end (w90 _ _ (wkm [0, 3, 4, 5] wh_nil) h)
             · intro N115 w115
               refine c_ops ?_
               refine o_r2 [(42, (vL Form.c a1)), (43, (vI x67))] ?_
               refine bnd h fun x116 g117 h => ?_
               refine o_o (one_ia (f := Form.c) (ki := .i64) g117) ?_
               refine o_r3 [(45, (.iptr [(vL Col.c x116.fCols)])), (46, (vL Col.c x116.fCols)), (47, (vI x109))] ?_
               refine bnd h fun x118 g119 h => ?_
               refine o_o (one_ia (f := Col.c) (ki := .i64) g119) ?_
               refine o_r5 [(49, (.iptr [(vS x118.fName), (vI x118.fKind), (vS x118.fClass)])), (50, (vS x118.fName)), (51, (vI (bsz x118.fName))), (52, (vB (decide ((bsz x118.fName) > 30)))), (53, (vB (decide ((bsz x118.fName) > 30))))] ?_
               refine i_o [52, 53] h (fun h => ?_) (fun h => ?_)
               · refine o_r12 [(54, (.val undef)), (55, (.val undef)), (56, (.val undef)), (57, (.val undef)), (58, (.val undef)), (59, (.val undef)), (60, (.val undef)), (61, (.val undef)), (62, (.val undef)), (63, (.val undef)), (64, (.val undef)), (65, (vB true))] ?_
                 exact o_end (w115 _ _ (wkm [0, 3, 4, 5, 65] wh_nil) h)
               · refine o_r2 [(54, (vL Form.c a1)), (55, (vI x67))] ?_
                 refine bnd h fun x121 g122 h => ?_
                 refine o_g ?_
                 refine o_o (one_ia (f := Form.c) (ki := .i64) g122) ?_
                 refine o_r3 [(57, (.iptr [(vL Col.c x121.fCols)])), (58, (vL Col.c x121.fCols)), (59, (vI x109))] ?_
                 refine bnd h fun x123 g124 h => ?_
                 refine o_g ?_
                 refine o_o (one_ia (f := Col.c) (ki := .i64) g124) ?_
                 refine o_r5 [(61, (.iptr [(vS x123.fClass)])), (62, (vS x123.fClass)), (63, (vI (bsz x123.fClass))), (64, (vB (decide ((bsz x123.fClass) > 30)))), (65, (vB (decide ((bsz x123.fClass) > 30))))] ?_
                 refine s_tm (mkd .any 79 0 [(0, (vL Form.c a1)), (3, (vI x67)), (4, (vI (len x75.fCols))), (5, (vI x109)), (37, (vI x109)), (38, (vI (len x75.fCols))), (39, (vB true)), (42, (vL Form.c a1)), (43, (vI x67)), (44, (.iptr [(vS x116.fName), (vL Col.c x116.fCols)])), (45, (.iptr [(vL Col.c x116.fCols)])), (46, (vL Col.c x116.fCols)), (47, (vI x109)), (48, (.iptr [(vS x118.fName), (vI x118.fKind), (vS x118.fClass)])), (49, (.iptr [(vS x118.fName), (vI x118.fKind), (vS x118.fClass)])), (50, (vS x118.fName)), (51, (vI (bsz x118.fName))), (52, (vB false)), (53, (vB false)), (54, (vL Form.c a1)), (55, (vI x67)), (56, (.iptr [(vS x121.fName), (vL Col.c x121.fCols)])), (57, (.iptr [(vL Col.c x121.fCols)])), (58, (vL Col.c x121.fCols)), (59, (vI x109)), (60, (.iptr [(vS x123.fName), (vI x123.fKind), (vS x123.fClass)])), (61, (.iptr [(vS x123.fClass)])), (62, (vS x123.fClass)), (63, (vI (bsz x123.fClass))), (64, (vB (decide ((bsz x123.fClass) > 30)))), (65, (vB (decide ((bsz x123.fClass) > 30))))]) ?_
                 exact o_end (w115 _ _ (wkm [0, 3, 4, 5, 65] wh_nil) h)
           · refine c_exit (hE89 _ ?_)
             exact w72 _ (wkm [0, 3] wh_nil) h
       · intro N79 w79
         refine c_ops ?_
         refine o_r2 [(18, (vL Form.c a1)), (19, (vI x67))] ?_
         refine bnd h fun x80 g81 h => ?_
         refine o_o (one_ia (f := Form.c) (ki := .i64) g81) ?_
         refine o_r5 [(21, (.iptr [(vS x80.fName), (vL Col.c x80.fCols)])), (22, (vS x80.fName)), (23, (vI (bsz x80.fName))), (24, (vB (decide ((bsz x80.fName) > 30)))), (25, (vB (decide ((bsz x80.fName) > 30))))] ?_
         refine s_tm (mkd .any 79 0 [(0, (vL Form.c a1)), (3, (vI x67)), (4, (vI (len x75.fCols))), (6, (vI x67)), (7, (vL Form.c a1)), (8, (vI (len a1))), (9, (vB true)), (12, (vL Form.c a1)), (13, (vI x67)), (14, (.iptr [(vS x75.fName), (vL Col.c x75.fCols)])), (15, (.iptr [(vL Col.c x75.fCols)])), (16, (vL Col.c x75.fCols)), (17, (vI (len x75.fCols))), (18, (vL Form.c a1)), (19, (vI x67)), (20, (.iptr [(vS x80.fName), (vL Col.c x80.fCols)])), (21, (.iptr [(vS x80.fName), (vL Col.c x80.fCols)])), (22, (vS x80.fName)), (23, (vI (bsz x80.fName))), (24, (vB (decide ((bsz x80.fName) > 30)))), (25, (vB (decide ((bsz x80.fName) > 30))))]) ?_
         refine i_o [24, 25] h (fun h => ?_) (fun h => ?_)
         · refine o_r11 [(26, (.val undef)), (27, (.val undef)), (28, (.val undef)), (29, (.val undef)), (30, (.val undef)), (31, (.val undef)), (32, (vB true)), (33, (vB true)), (34, (.val undef)), (35, (.val undef)), (36, (vB true))] ?_
           exact o_end (w79 _ _ (wkm [0, 3, 4, 36] wh_nil) h)
         · refine o_r3 [(26, (vI (len x75.fCols))), (27, (vB (decide ((len x75.fCols) > 6)))), (28, (vB (decide ((len x75.fCols) > 6))))] ?_
           refine i_o [27, 28] h (fun h => ?_) (fun h => ?_)
           · refine o_r5 [(29, (vI (len x75.fCols))), (30, (vB (decide ((len x75.fCols) ≤ 30)))), (31, (vB (decide ((len x75.fCols) ≤ 30)))), (32, (vB (decide ((len x75.fCols) ≤ 30)))), (33, (vB (decide ((len x75.fCols) ≤ 30))))] ?_
             refine i_o [30, 31, 32, 33] h (fun h => ?_) (fun h => ?_)
             · refine o_r3 [(34, (.val undef)), (35, (.val undef)), (36, (vB true))] ?_
               exact o_end (w79 _ _ (wkm [0, 3, 4, 36] wh_nil) h)
             · refine o_r3 [(34, (vI (len x75.fCols))), (35, (vB (decide ((len x75.fCols) > 40)))), (36, (vB (decide ((len x75.fCols) > 40))))] ?_
               exact o_end (w79 _ _ (wkm [0, 3, 4, 36] wh_nil) h)
           · refine o_r8 [(29, (.val undef)), (30, (.val undef)), (31, (vB false)), (32, (vB false)), (33, (vB false)), (34, (vI (len x75.fCols))), (35, (vB (decide ((len x75.fCols) > 40)))), (36, (vB (decide ((len x75.fCols) > 40))))] ?_
             exact o_end (w79 _ _ (wkm [0, 3, 4, 36] wh_nil) h)
   · refine c_exit (hE5 _ ?_)
     exact w3 _ (wkm [0] wh_nil) h
theorem ic8 : fnIC Tryz.prog H0 8 = some ([.tmp 2], 30, (.seq (.ops [zO 2 (.mov (.c (.bool false)))]) (.seq (.seq (.ops [zO 3 (.mov (.c (.int .i64 0)))]) (.block 0 (.loop (.seq (.seq (.ops [zM 4 3, zM 5 0, zO 6 (.len false (.t 5)), zO 7 (.sc (.bin .lss 3) [(.t 4), (.t 6)])]) (.cond (.t 7)
  .skip
  (.exit 0))) (.seq (.block 1 (.seq (.ops [zM 10 0, zM 11 3, zO 12 (.iaddr 3 (.t 10) (.t 11)), zO 13 (.faddr (.t 12) 2), zO 14 (.ld (.t 13) 1 false), zO 15 (.len false (.t 14)), zO 16 (.sc (.bin .gtr 3) [(.t 15), (.c (.int .i64 8))])]) (.cond (.t 16)
  (.seq (.ops [zO 2 (.mov (.c (.bool false)))]) .ret)
  .skip))) (.ops [zM 8 3, zO 9 (.sc (.bin .add 3) [(.t 8), (.c (.int .i64 1))]), zM 3 9])))))) (.seq (.ops [zM 17 0, zO 18 (.len false (.t 17)), zO 19 (.sc (.bin .leq 3) [(.t 18), (.c (.int .i64 8))]), zM 20 19, zN 21 20 false 0, zG 22 20 false (.len false (.t 21)), zG 23 20 false (.sc (.bin .gtr 3) [(.t 22), (.c (.int .i64 24))]), zN 24 20 false 23, zN 25 24 true 0, zG 26 24 true (.len false (.t 25)), zG 27 24 true (.sc (.bin .leq 3) [(.t 26), (.c (.int .i64 30))]), zG 28 20 false (.pick (.t 24) (.t 27) (.c (.bool false))), zO 29 (.pick (.t 20) (.c (.bool true)) (.t 28)), zM 2 29]) .ret)))) := by kernel_rfl
def f31_k32 (x38 : Bool) : Option Bool := some x38
def f31_k3 (a1 : (List Rule)) : Option Bool := (bif (decide ((len a1) ≤ 8)) then (f31_k32 true) else (bif (decide ((len a1) > 24)) then (f31_k32 (decide ((len a1) ≤ 30))) else (f31_k32 false)))
def f31_l6 (a1 : (List Rule)) (k3k : Option Bool) : Nat → Int → Option Bool
  | 0, _ => none
  | m6 + 1, x19 => (bif (decide (x19 < (len a1))) then ((gi a1 x19).bind fun x27 => (bif (decide ((len x27.fGives) > 8)) then some false else (f31_l6 a1 (k3k) m6 (wr .i64 (x19 + 1))))) else (k3k))
def f31 (n : Nat) (a1 : (List Rule)) : Option Bool := (f31_l6 a1 (f31_k3 a1) n 0)
def f31_r (r : Bool) : AV := (vB r)
theorem p_f31 {n : Nat} {a1 : (List Rule)} {r : Bool} (h : f31 n a1 = some r) : PureSpec Tryz.prog 8 [(vL Rule.c a1)] (f31_r r) := by
 rw [f31.eq_1] at h
 refine pure_of hmix ic8 ?_
 refine go_to (mkd (.val undef) 30 0 [(0, (vL Rule.c a1))]) ?_
 refine s_so fun N2 k2 w2 => ?_
 refine o_r1 [(2, (vB false))] ?_
 refine o_end (k2 _ ?_)
 refine J0 (r := r) ⟨(mkd .any 30 0 [(0, (vL Rule.c a1))]), []⟩ (f31_k3 a1) ?_ ?_
 · intro h
   rw [f31_k3.eq_1] at h
   refine J1 (r := r) (fun (x38 : Bool) => ⟨(mkd .any 30 0 [(2, (vB x38))]), []⟩) (f31_k32) ?_ ?_
   · intro x38 h
     rw [f31_k32.eq_1] at h
     exact c_ret (rets [] [(vB x38)] [(vB x38)] h)
   · intro N32 w32
     refine c_ops ?_
     refine o_r1 [(17, (vL Rule.c a1))] ?_
     refine o_o (one_len (f := Rule.c) (l := a1)) ?_
     refine o_r2 [(19, (vB (decide ((len a1) ≤ 8)))), (20, (vB (decide ((len a1) ≤ 8))))] ?_
     refine i_o [19, 20] h (fun h => ?_) (fun h => ?_)
     · refine o_r10 [(2, (vB true)), (21, (.val undef)), (22, (.val undef)), (23, (.val undef)), (24, (.val undef)), (25, (.val undef)), (26, (.val undef)), (27, (.val undef)), (28, (.val undef)), (29, (vB true))] ?_
       exact o_end (w32 _ _ (wkm [2] wh_nil) h)
     · refine o_r1 [(21, (vL Rule.c a1))] ?_
       refine o_g ?_
       refine o_o (one_len (f := Rule.c) (l := a1)) ?_
       refine o_r2 [(23, (vB (decide ((len a1) > 24)))), (24, (vB (decide ((len a1) > 24))))] ?_
       refine i_o [23, 24] h (fun h => ?_) (fun h => ?_)
       · refine o_r1 [(25, (vL Rule.c a1))] ?_
         refine o_g ?_
         refine o_o (one_len (f := Rule.c) (l := a1)) ?_
         refine o_r4 [(2, (vB (decide ((len a1) ≤ 30)))), (27, (vB (decide ((len a1) ≤ 30)))), (28, (vB (decide ((len a1) ≤ 30)))), (29, (vB (decide ((len a1) ≤ 30))))] ?_
         exact o_end (w32 _ _ (wkm [2] wh_nil) h)
       · refine o_r6 [(2, (vB false)), (25, (.val undef)), (26, (.val undef)), (27, (.val undef)), (28, (vB false)), (29, (vB false))] ?_
         exact o_end (w32 _ _ (wkm [2] wh_nil) h)
 · intro N3 w3
   refine s_so fun N4 k4 w4 => ?_
   refine o_r1 [(3, (vI 0))] ?_
   refine o_end (k4 _ ?_)
   refine c_block fun E5 hE5 hO5 => ?_
   refine W1 (fun (x19 : Int) => ⟨(mkd .any 30 0 [(0, (vL Rule.c a1)), (3, (vI x19))]), []⟩) (f31_l6 a1 (f31_k3 a1)) h (wkm [0, 3] wh_nil) (by intros; rw [f31_l6.eq_1]) ?_
   intro m6 x19 h N6 w6
   rw [f31_l6.eq_2] at h
   refine s_seq fun N20 k20 w20 => ?_
   refine s_so fun N21 k21 w21 => ?_
   refine o_r2 [(4, (vI x19)), (5, (vL Rule.c a1))] ?_
   refine o_o (one_len (f := Rule.c) (l := a1)) ?_
   refine o_r1 [(7, (vB (decide (x19 < (len a1)))))] ?_
   refine o_end (k21 _ ?_)
   refine i_c [7] h (fun h => ?_) (fun h => ?_)
   · refine c_skip (k20 _ ?_)
     refine s_seq fun N24 k24 w24 => ?_
     refine c_block fun E25 hE25 hO25 => ?_
     refine s_so fun N26 k26 w26 => ?_
     refine o_r2 [(10, (vL Rule.c a1)), (11, (vI x19))] ?_
     refine bnd h fun x27 g28 h => ?_
     refine o_o (one_ia (f := Rule.c) (ki := .i64) g28) ?_
     refine o_r2 [(13, (.iptr [(vL Give.c x27.fGives)])), (14, (vL Give.c x27.fGives))] ?_
     refine o_o (one_len (f := Give.c) (l := x27.fGives)) ?_
     refine o_r1 [(16, (vB (decide ((len x27.fGives) > 8))))] ?_
     refine o_end (k26 _ ?_)
     refine i_c [16] h (fun h => ?_) (fun h => ?_)
     · refine s_so fun N31 k31 w31 => ?_
       refine o_r1 [(2, (vB false))] ?_
       refine o_end (k31 _ ?_)
       exact c_ret (rets [] [(vB false)] [(vB false)] h)
     · refine c_skip (k24 _ ?_)
       refine c_ops ?_
       refine o_r3 [(3, (vI (wr .i64 (x19 + 1)))), (8, (vI x19)), (9, (vI (wr .i64 (x19 + 1))))] ?_
       exact o_end (w6 _ _ (wkm [0, 3] wh_nil) h)
   · refine c_exit (hE5 _ ?_)
     exact w3 _ (wkm [0] wh_nil) h
def f15 (n : Nat) : Option Bool := some true
def f15_r (r : Bool) : AV := (vB r)
theorem p_f15 {n : Nat} {r : Bool} (h : f15 n = some r) : PureSpec Tryz.prog 10 [] (f15_r r) := by
 cases Option.some.inj h
 exact sanity15
theorem ic135 : fnIC Tryz.prog H0 135 = some ([.tmp 4], 28, (.seq (.ops [zO 4 (.mov (.c (.bool false)))]) (.seq (.ops [zM 5 0, zO 6 (.ld (.t 1) 1 false), zO 7 (.sc (.conv 5 21) [(.t 6)]), zO 8 (.sc (.bin .geq 21) [(.t 5), (.t 7)]), zM 9 8, zN 10 9 true 0, zG 11 9 true (.ld (.t 2) 1 false), zG 12 9 true (.sc (.conv 5 21) [(.t 11)]), zG 13 9 true (.sc (.bin .leq 21) [(.t 10), (.t 12)]), zO 14 (.pick (.t 9) (.t 13) (.c (.bool false))), zM 15 14, zN 16 15 false 0, zG 17 15 false (.sc (.bin .geq 21) [(.t 16), (.c (.int .i32 48))]), zN 18 15 false 17, zN 19 18 true 0, zG 20 18 true (.sc (.bin .leq 21) [(.t 19), (.c (.int .i32 57))]), zG 21 15 false (.pick (.t 18) (.t 20) (.c (.bool false))), zO 22 (.pick (.t 15) (.c (.bool true)) (.t 21)), zM 23 22, zN 24 23 false 0, zG 25 23 false (.sc (.bin .eql 21) [(.t 24), (.c (.int .i32 95))]), zO 26 (.pick (.t 23) (.c (.bool true)) (.t 25)), zO 27 (.sc (.un .not) [(.t 26)]), zM 4 27]) .ret))) := by kernel_rfl
def f123_k5 (x12 : Bool) : Option Bool := some x12
def f123 (n : Nat) (a1 : Int) (a2 : Int) (a3 : Int) : Option Bool := (bif (decide (a1 ≥ (wr .i32 a2))) then (bif (decide (a1 ≤ (wr .i32 a3))) then (f123_k5 false) else (bif (decide (a1 ≥ 48)) then (bif (decide (a1 ≤ 57)) then (f123_k5 false) else (f123_k5 (!(a1 == 95)))) else (f123_k5 (!(a1 == 95))))) else (bif (decide (a1 ≥ 48)) then (bif (decide (a1 ≤ 57)) then (f123_k5 false) else (f123_k5 (!(a1 == 95)))) else (f123_k5 (!(a1 == 95)))))
def f123_r (r : Bool) : AV := (vB r)
theorem p_f123 {n : Nat} {a1 : Int} {a2 : Int} {a3 : Int} {r : Bool} (h : f123 n a1 a2 a3 = some r) : PureSpec Tryz.prog 135 [(vKi .i32 a1), (.iptr [(vKi .u8 a2)]), (.iptr [(vKi .u8 a3)])] (f123_r r) := by
 rw [f123.eq_1] at h
 refine pure_of hmix ic135 ?_
 refine go_to (mkd (.val undef) 28 0 [(0, (vKi .i32 a1)), (1, (.iptr [(vKi .u8 a2)])), (2, (.iptr [(vKi .u8 a3)]))]) ?_
 refine s_so fun N4 k4 w4 => ?_
 refine o_r1 [(4, (vB false))] ?_
 refine o_end (k4 _ ?_)
 refine J1 (r := r) (fun (x12 : Bool) => ⟨(mkd .any 28 0 [(4, (vB x12))]), []⟩) (f123_k5) ?_ ?_
 · intro x12 h
   rw [f123_k5.eq_1] at h
   exact c_ret (rets [] [(vB x12)] [(vB x12)] h)
 · intro N5 w5
   refine c_ops ?_
   refine o_r5 [(5, (vKi .i32 a1)), (6, (vKi .u8 a2)), (7, (vKi .i32 (wr .i32 a2))), (8, (vB (decide (a1 ≥ (wr .i32 a2))))), (9, (vB (decide (a1 ≥ (wr .i32 a2)))))] ?_
   refine i_o [8, 9] h (fun h => ?_) (fun h => ?_)
   · refine o_r6 [(10, (vKi .i32 a1)), (11, (vKi .u8 a3)), (12, (vKi .i32 (wr .i32 a3))), (13, (vB (decide (a1 ≤ (wr .i32 a3))))), (14, (vB (decide (a1 ≤ (wr .i32 a3))))), (15, (vB (decide (a1 ≤ (wr .i32 a3)))))] ?_
     refine i_o [13, 14, 15] h (fun h => ?_) (fun h => ?_)
     · refine o_r13 [(16, (.val undef)), (17, (.val undef)), (18, (.val undef)), (19, (.val undef)), (20, (.val undef)), (21, (.val undef)), (22, (vB true)), (23, (vB true)), (24, (.val undef)), (25, (.val undef)), (26, (vB true)), (27, (vB false))] ?_
       exact o_end (w5 _ _ (wkm [4] wh_nil) h)
     · refine o_r3 [(16, (vKi .i32 a1)), (17, (vB (decide (a1 ≥ 48)))), (18, (vB (decide (a1 ≥ 48))))] ?_
       refine i_o [17, 18] h (fun h => ?_) (fun h => ?_)
       · refine o_r5 [(19, (vKi .i32 a1)), (20, (vB (decide (a1 ≤ 57)))), (21, (vB (decide (a1 ≤ 57)))), (22, (vB (decide (a1 ≤ 57)))), (23, (vB (decide (a1 ≤ 57))))] ?_
         refine i_o [20, 21, 22, 23] h (fun h => ?_) (fun h => ?_)
         · refine o_r5 [(24, (.val undef)), (25, (.val undef)), (26, (vB true)), (27, (vB false))] ?_
           exact o_end (w5 _ _ (wkm [4] wh_nil) h)
         · refine o_r5 [(4, (vB (!(a1 == 95)))), (24, (vKi .i32 a1)), (25, (vB (a1 == 95))), (26, (vB (a1 == 95))), (27, (vB (!(a1 == 95))))] ?_
           exact o_end (w5 _ _ (wkm [4] wh_nil) h)
       · refine o_r10 [(4, (vB (!(a1 == 95)))), (19, (.val undef)), (20, (.val undef)), (21, (vB false)), (22, (vB false)), (23, (vB false)), (24, (vKi .i32 a1)), (25, (vB (a1 == 95))), (26, (vB (a1 == 95))), (27, (vB (!(a1 == 95))))] ?_
         exact o_end (w5 _ _ (wkm [4] wh_nil) h)
   · refine o_r9 [(10, (.val undef)), (11, (.val undef)), (12, (.val undef)), (13, (.val undef)), (14, (vB false)), (15, (vB false)), (16, (vKi .i32 a1)), (17, (vB (decide (a1 ≥ 48)))), (18, (vB (decide (a1 ≥ 48))))] ?_
     refine i_o [17, 18] h (fun h => ?_) (fun h => ?_)
     · refine o_r5 [(19, (vKi .i32 a1)), (20, (vB (decide (a1 ≤ 57)))), (21, (vB (decide (a1 ≤ 57)))), (22, (vB (decide (a1 ≤ 57)))), (23, (vB (decide (a1 ≤ 57))))] ?_
       refine i_o [20, 21, 22, 23] h (fun h => ?_) (fun h => ?_)
       · refine o_r5 [(24, (.val undef)), (25, (.val undef)), (26, (vB true)), (27, (vB false))] ?_
         exact o_end (w5 _ _ (wkm [4] wh_nil) h)
       · refine o_r5 [(4, (vB (!(a1 == 95)))), (24, (vKi .i32 a1)), (25, (vB (a1 == 95))), (26, (vB (a1 == 95))), (27, (vB (!(a1 == 95))))] ?_
         exact o_end (w5 _ _ (wkm [4] wh_nil) h)
     · refine o_r10 [(4, (vB (!(a1 == 95)))), (19, (.val undef)), (20, (.val undef)), (21, (vB false)), (22, (vB false)), (23, (vB false)), (24, (vKi .i32 a1)), (25, (vB (a1 == 95))), (26, (vB (a1 == 95))), (27, (vB (!(a1 == 95))))] ?_
       exact o_end (w5 _ _ (wkm [4] wh_nil) h)
theorem ic144 : fnIC Tryz.prog H0 144 = some ([.tmp 6], 21, (.seq (.ops [zO 6 (.mov (.c (.int .i64 0)))]) (.seq (.seq (.ops [zM 9 0, zO 10 (.rng 0 (.t 9))]) (.block 0 (.loop (.seq (.ops [zO 11 (.nxt (.t 10)), zO 12 (.ext (.t 11) 0)]) (.seq (.cond (.t 12)
  .skip
  (.exit 0)) (.block 1 (.seq (.ops [zO 13 (.ext (.t 11) 1), zO 14 (.ext (.t 11) 2), zM 7 13, zM 8 14]) (.seq (.ops [zM 15 1, zM 16 8, zO 17 (.callv (.t 15) [(.t 16)]), zM 18 2, zO 19 (.sc (.bin .eql 4) [(.t 17), (.t 18)])]) (.cond (.t 19)
  (.seq (.ops [zM 20 7, zM 6 20]) .ret)
  .skip))))))))) (.seq (.ops [zO 6 (.mov (.c (.int .i64 (-1))))]) .ret)))) := by kernel_rfl
def f143_k6 : Option Int := some (-1)
def f143_l9 (a1 : ByteArray) (n : Nat) (a2 : Int) (a3 : Int) (a4 : Bool) (k6k : Option Int) : Nat → Nat → Option Int
  | 0, _ => none
  | m9 + 1, x20 => (bif (decide (x20 < ByteArray.size a1)) then ((f123 n (dec1 a1 x20) a2 a3).bind fun r26 => (bif (r26 == a4) then some (Int.ofNat x20) else (f143_l9 a1 n a2 a3 a4 (k6k) m9 (x20 + dec2 a1 x20)))) else (k6k))
def f143 (n : Nat) (a1 : ByteArray) (a2 : Int) (a3 : Int) (a4 : Bool) : Option Int := (f143_l9 a1 n a2 a3 a4 (f143_k6) n 0)
def f143_r (r : Int) : AV := (vI r)
theorem p_f143 {n : Nat} {a1 : ByteArray} {a2 : Int} {a3 : Int} {a4 : Bool} {r : Int} (h : f143 n a1 a2 a3 a4 = some r) : PureSpec Tryz.prog 144 [(vS a1), (.fn 135 [(.iptr [(vKi .u8 a2)]), (.iptr [(vKi .u8 a3)])]), (vB a4)] (f143_r r) := by
 rw [f143.eq_1] at h
 refine pure_of hmix ic144 ?_
 refine go_to (mkd (.val undef) 21 0 [(0, (vS a1)), (1, (.fn 135 [(.iptr [(vKi .u8 a2)]), (.iptr [(vKi .u8 a3)])])), (2, (vB a4))]) ?_
 refine s_so fun N5 k5 w5 => ?_
 refine o_r1 [(6, (vI 0))] ?_
 refine o_end (k5 _ ?_)
 refine J0 (r := r) ⟨(mkd .any 21 0 []), []⟩ (f143_k6) ?_ ?_
 · intro h
   rw [f143_k6.eq_1] at h
   refine s_so fun N31 k31 w31 => ?_
   refine o_r1 [(6, (vI (-1)))] ?_
   refine o_end (k31 _ ?_)
   exact c_ret (rets [] [(vI (-1))] [(vI (-1))] h)
 · intro N6 w6
   refine s_so fun N7 k7 w7 => ?_
   refine o_h2 [(9, (vS a1)), (10, (.ptr 0 0))] [(some (.iter a1 0))] ?_
   refine o_end (k7 _ ?_)
   refine c_block fun E8 hE8 hO8 => ?_
   refine W1 (fun (x20 : Nat) => ⟨(mkd .any 21 0 [(1, (.fn 135 [(.iptr [(vKi .u8 a2)]), (.iptr [(vKi .u8 a3)])])), (2, (vB a4)), (10, (.ptr 0 0))]), [(some (.iter a1 x20))]⟩) (f143_l9 a1 n a2 a3 a4 (f143_k6)) h (wkm [1, 2, 10] (whk wh_nil)) (by intros; rw [f143_l9.eq_1]) ?_
   intro m9 x20 h N9 w9
   rw [f143_l9.eq_2] at h
   refine s_so fun N21 k21 w21 => ?_
   refine fork h (fun hb h => ?_) (fun hb h => ?_)
   · refine o_x [(some (.iter a1 (x20 + dec2 a1 x20)))] (one_nxtT (b := a1) (pos := x20) (o := 0) hb) ?_
     refine o_r1 [(12, (vB true))] ?_
     refine o_end (k21 _ ?_)
     refine s_seq fun N22 k22 w22 => ?_
     refine k_T ?_
     refine c_skip (k22 _ ?_)
     refine c_block fun E23 hE23 hO23 => ?_
     refine s_so fun N24 k24 w24 => ?_
     refine o_r4 [(7, (vI (Int.ofNat x20))), (8, (vKi .i32 (dec1 a1 x20))), (13, (vI (Int.ofNat x20))), (14, (vKi .i32 (dec1 a1 x20)))] ?_
     refine o_end (k24 _ ?_)
     refine s_so fun N25 k25 w25 => ?_
     refine o_r2 [(15, (.fn 135 [(.iptr [(vKi .u8 a2)]), (.iptr [(vKi .u8 a3)])])), (16, (vKi .i32 (dec1 a1 x20)))] ?_
     refine bnd h fun r26 g27 h => ?_
     refine o_o (one_callv (caps := [(.iptr [(vKi .u8 a2)]), (.iptr [(vKi .u8 a3)])]) (p_f123 g27)) ?_
     refine o_r2 [(18, (vB a4)), (19, (vB (r26 == a4)))] ?_
     refine o_end (k25 _ ?_)
     refine i_c [19] h (fun h => ?_) (fun h => ?_)
     · refine s_so fun N29 k29 w29 => ?_
       refine o_r2 [(6, (vI (Int.ofNat x20))), (20, (vI (Int.ofNat x20)))] ?_
       refine o_end (k29 _ ?_)
       exact c_ret (rets [] [(vI (Int.ofNat x20))] [(vI (Int.ofNat x20))] h)
     · exact c_skip (w9 _ _ (wkm [1, 2, 10] (whk wh_nil)) h)
   · refine o_x [(some (.iter a1 x20))] (one_nxtF (b := a1) (pos := x20) (o := 0) hb) ?_
     refine o_r1 [(12, (vB false))] ?_
     refine o_end (k21 _ ?_)
     refine s_seq fun N30 k30 w30 => ?_
     refine k_F ?_
     refine c_exit (hE8 _ ?_)
     exact w6 _ (wkm [] wh_nil) h
theorem ic134 : fnIC Tryz.prog H0 134 = some ([.tmp 4], 8, (.seq (.ops [zO 4 (.mov (.c (.int .i64 0)))]) (.seq (.ops [zM 5 0, zM 6 1, zO 7 (.call 144 [(.t 5), (.t 6), (.c (.bool true))]), zM 4 7]) .ret))) := by kernel_rfl
def f122 (n : Nat) (a1 : ByteArray) (a2 : Int) (a3 : Int) : Option Int := ((f143 n a1 a2 a3 true).bind fun r6 => some r6)
def f122_r (r : Int) : AV := (vI r)
theorem p_f122 {n : Nat} {a1 : ByteArray} {a2 : Int} {a3 : Int} {r : Int} (h : f122 n a1 a2 a3 = some r) : PureSpec Tryz.prog 134 [(vS a1), (.fn 135 [(.iptr [(vKi .u8 a2)]), (.iptr [(vKi .u8 a3)])])] (f122_r r) := by
 rw [f122.eq_1] at h
 refine pure_of hmix ic134 ?_
 refine go_to (mkd (.val undef) 8 0 [(0, (vS a1)), (1, (.fn 135 [(.iptr [(vKi .u8 a2)]), (.iptr [(vKi .u8 a3)])]))]) ?_
 refine s_so fun N4 k4 w4 => ?_
 refine o_r1 [(4, (vI 0))] ?_
 refine o_end (k4 _ ?_)
 refine s_so fun N5 k5 w5 => ?_
 refine o_r2 [(5, (vS a1)), (6, (.fn 135 [(.iptr [(vKi .u8 a2)]), (.iptr [(vKi .u8 a3)])]))] ?_
 refine bnd h fun r6 g7 h => ?_
 refine o_o (one_call (p_f143 g7)) ?_
 refine o_r1 [(4, (vI r6))] ?_
 refine o_end (k5 _ ?_)
 exact c_ret (rets [] [(vI r6)] [(vI r6)] h)
theorem ic121 : fnIC Tryz.prog H0 121 = some ([.tmp 6], 30, (.seq (.ops [zO 4 (.box 0 5 [] (.t 1)), zO 5 (.box 0 5 [] (.t 2)), zO 6 (.mov (.c (.bool false)))]) (.seq (.seq (.draw [] [zQ (zM 7 0), zQ (zO 8 (.sc (.bin .eql 9) [(.t 7), (.c (.string ⟨#[]⟩))])), zQ (zM 9 8), zQ (zN 10 9 false 0), zQ (zG 11 9 false (.len true (.t 10))), zQ (zG 12 9 false (.sc (.bin .gtr 3) [(.t 11), (.c (.int .i64 20))])), zQ (zO 13 (.pick (.t 9) (.c (.bool true)) (.t 12))), zQ (zM 14 13), zQ (zN 15 14 false 0), zQ (zG 16 14 false (.sc (.idx 9) [(.t 15), (.c (.int .i64 0))])), zQ (zG 17 14 false (.ld (.t 4) 1 false)), zQ (zG 18 14 false (.sc (.bin .lss 5) [(.t 16), (.t 17)])), zQ (zO 19 (.pick (.t 14) (.c (.bool true)) (.t 18))), zQ (zM 20 19), zQ (zN 21 20 false 0), zQ (zG 22 20 false (.sc (.idx 9) [(.t 21), (.c (.int .i64 0))])), zQ (zG 23 20 false (.ld (.t 5) 1 false)), zQ (zG 24 20 false (.sc (.bin .gtr 5) [(.t 22), (.t 23)])), zQ (zO 25 (.pick (.t 20) (.c (.bool true)) (.t 24)))]) (.cond (.t 25)
  (.seq (.ops [zO 6 (.mov (.c (.bool false)))]) .ret)
  .skip)) (.seq (.ops [zM 26 0, zO 27 (.mkf 135 [(.t 4), (.t 5)]), zO 28 (.call 134 [(.t 26), (.t 27)]), zO 29 (.sc (.bin .lss 3) [(.t 28), (.c (.int .i64 0))]), zM 6 29]) .ret)))) := by kernel_rfl
def f90_k6 (n : Nat) (a1 : ByteArray) (a2 : Int) (a3 : Int) (x15 : Bool) : Option Bool := (bif x15 then some false else ((f122 n a1 a2 a3).bind fun r19 => some (decide (r19 < 0))))
def f90 (n : Nat) (a1 : ByteArray) (a2 : Int) (a3 : Int) : Option Bool := (bif (sEqF a1 (ByteArray.mk #[])) then (f90_k6 n a1 a2 a3 true) else (bif (decide ((bsz a1) > 20)) then (f90_k6 n a1 a2 a3 true) else ((si a1 0).bind fun c10 => (bif (decide (c10 < a2)) then (f90_k6 n a1 a2 a3 true) else ((si a1 0).bind fun c13 => (f90_k6 n a1 a2 a3 (decide (c13 > a3))))))))
def f90_r (r : Bool) : AV := (vB r)
theorem p_f90 {n : Nat} {a1 : ByteArray} {a2 : Int} {a3 : Int} {r : Bool} (h : f90 n a1 a2 a3 = some r) : PureSpec Tryz.prog 121 [(vS a1), (vKi .u8 a2), (vKi .u8 a3)] (f90_r r) := by
 rw [f90.eq_1] at h
 refine pure_of hmix ic121 ?_
 refine go_to (mkd (.val undef) 30 0 [(0, (vS a1)), (1, (vKi .u8 a2)), (2, (vKi .u8 a3))]) ?_
 refine s_so fun N4 k4 w4 => ?_
 refine o_h3 [(4, (.ptr 0 0)), (5, (.ptr 1 0)), (6, (vB false))] [(some (.box 5 [(vKi .u8 a2)])), (some (.box 5 [(vKi .u8 a3)]))] ?_
 refine o_end (k4 _ ?_)
 refine s_seq fun N5 k5 w5 => ?_
 refine J1 (r := r) (fun (x15 : Bool) => ⟨(mkd .any 30 0 [(0, (vS a1)), (4, (.ptr 0 0)), (5, (.ptr 1 0)), (25, (vB x15))]), [(some (.box 5 [(vKi .u8 a2)])), (some (.box 5 [(vKi .u8 a3)]))]⟩) (f90_k6 n a1 a2 a3) ?_ ?_
 · intro x15 h
   rw [f90_k6.eq_1] at h
   refine i_c [25] h (fun h => ?_) (fun h => ?_)
   · refine s_so fun N17 k17 w17 => ?_
     refine o_r1 [(6, (vB false))] ?_
     refine o_end (k17 _ ?_)
     exact c_ret (rets [] [(vB false)] [(vB false)] h)
   · refine c_skip (k5 _ ?_)
     refine s_so fun N18 k18 w18 => ?_
     refine o_r2 [(26, (vS a1)), (27, (.fn 135 [(.ptr 0 0), (.ptr 1 0)]))] ?_
     refine bnd h fun r19 g20 h => ?_
     refine o_o (one_callT [0, 1] (p_f122 g20) (ns_v _)) ?_
     refine o_r2 [(6, (vB (decide (r19 < 0)))), (29, (vB (decide (r19 < 0))))] ?_
     refine o_end (k18 _ ?_)
     exact c_ret (rets [] [(vB (decide (r19 < 0)))] [(vB (decide (r19 < 0)))] h)
 · intro N6 w6
   refine c_draw0 ?_
   refine d_r1 [(7, (vS a1))] ?_
   refine d_o (one_sc (vs := [.string a1, .string (ByteArray.mk #[])]) (str_eql a1 (ByteArray.mk #[]))) ?_
   refine d_r1 [(9, (vB (sEqF a1 (ByteArray.mk #[]))))] ?_
   refine i_d [8, 9] h (fun h => ?_) (fun h => ?_)
   · refine d_r16 [(10, (.val undef)), (11, (.val undef)), (12, (.val undef)), (13, (vB true)), (14, (vB true)), (15, (.val undef)), (16, (.val undef)), (17, (.val undef)), (18, (.val undef)), (19, (vB true)), (20, (vB true)), (21, (.val undef)), (22, (.val undef)), (23, (.val undef)), (24, (.val undef)), (25, (vB true))] ?_
     exact d_end (w6 _ _ (wkm [0, 4, 5, 25] (whk (whk wh_nil))) h)
   · refine d_r5 [(10, (vS a1)), (11, (vI (bsz a1))), (12, (vB (decide ((bsz a1) > 20)))), (13, (vB (decide ((bsz a1) > 20)))), (14, (vB (decide ((bsz a1) > 20))))] ?_
     refine i_d [12, 13, 14] h (fun h => ?_) (fun h => ?_)
     · refine d_r11 [(15, (.val undef)), (16, (.val undef)), (17, (.val undef)), (18, (.val undef)), (19, (vB true)), (20, (vB true)), (21, (.val undef)), (22, (.val undef)), (23, (.val undef)), (24, (.val undef)), (25, (vB true))] ?_
       exact d_end (w6 _ _ (wkm [0, 4, 5, 25] (whk (whk wh_nil))) h)
     · refine d_r1 [(15, (vS a1))] ?_
       refine bnd h fun c10 g11 h => ?_
       refine d_g (one_idx (ki := .i64) g11) ?_
       refine d_r4 [(17, (vKi .u8 a2)), (18, (vB (decide (c10 < a2)))), (19, (vB (decide (c10 < a2)))), (20, (vB (decide (c10 < a2))))] ?_
       refine i_d [18, 19, 20] h (fun h => ?_) (fun h => ?_)
       · refine d_r5 [(21, (.val undef)), (22, (.val undef)), (23, (.val undef)), (24, (.val undef)), (25, (vB true))] ?_
         refine t_tm (mkd (.val undef) 30 0 [(0, (vS a1)), (1, (vKi .u8 a2)), (2, (vKi .u8 a3)), (4, (.ptr 0 0)), (5, (.ptr 1 0)), (6, (vB false)), (7, (vS a1)), (8, (vB false)), (9, (vB false)), (10, (vS a1)), (11, (vI (bsz a1))), (12, (vB false)), (13, (vB false)), (14, (vB false)), (15, (vS a1)), (16, (vKi .u8 c10)), (17, (vKi .u8 a2)), (18, (vB true)), (19, (vB true)), (20, (vB true)), (21, (.val undef)), (22, (.val undef)), (23, (.val undef)), (24, (.val undef)), (25, (vB true))]) ?_
         exact d_end (w6 _ _ (wkm [0, 4, 5, 25] (whk (whk wh_nil))) h)
       · refine d_r1 [(21, (vS a1))] ?_
         refine t_tm (mkd (.val undef) 30 0 [(0, (vS a1)), (1, (vKi .u8 a2)), (2, (vKi .u8 a3)), (4, (.ptr 0 0)), (5, (.ptr 1 0)), (6, (vB false)), (7, (vS a1)), (8, (vB false)), (9, (vB false)), (10, (vS a1)), (11, (vI (bsz a1))), (12, (vB false)), (13, (vB false)), (14, (vB false)), (15, (vS a1)), (16, (vKi .u8 c10)), (17, (vKi .u8 a2)), (18, (vB false)), (19, (vB false)), (20, (vB false)), (21, (vS a1))]) ?_
         refine bnd h fun c13 g14 h => ?_
         refine d_g (one_idx (ki := .i64) g14) ?_
         refine d_r3 [(23, (vKi .u8 a3)), (24, (vB (decide (c13 > a3)))), (25, (vB (decide (c13 > a3))))] ?_
         exact d_end (w6 _ _ (wkm [0, 4, 5, 25] (whk (whk wh_nil))) h)
theorem ic136 : fnIC Tryz.prog H0 136 = some ([.tmp 4], 19, (.seq (.ops [zO 4 (.mov (.c (.int .i64 0)))]) (.seq (.seq (.ops [zM 6 0, zO 7 (.len false (.t 6)), zO 8 (.mov (.c (.int .i64 0)))]) (.block 0 (.loop (.seq (.ops [zO 9 (.sc (.bin .lss 3) [(.t 8), (.t 7)])]) (.seq (.cond (.t 9)
  .skip
  (.exit 0)) (.seq (.block 1 (.seq (.ops [zM 10 8, zM 5 10]) (.seq (.ops [zM 11 1, zM 12 0, zM 13 5, zO 14 (.iaddr 1 (.t 12) (.t 13)), zO 15 (.ld (.t 14) 1 false), zO 16 (.sc (.bin .eql 9) [(.t 11), (.t 15)])]) (.cond (.t 16)
  (.seq (.ops [zM 17 5, zM 4 17]) .ret)
  .skip)))) (.ops [zO 18 (.sc (.bin .add 3) [(.t 8), (.c (.int .i64 1))]), zM 8 18]))))))) (.seq (.ops [zO 4 (.mov (.c (.int .i64 (-1))))]) .ret)))) := by kernel_rfl
def f124_k4 : Option Int := some (-1)
def f124_l8 (a1 : (List ByteArray)) (a2 : ByteArray) (k4k : Option Int) : Nat → Int → Option Int
  | 0, _ => none
  | m8 + 1, x21 => (bif (decide (x21 < (len a1))) then ((gi a1 x21).bind fun x29 => (bif (sEqF a2 x29) then some x21 else (f124_l8 a1 a2 (k4k) m8 (wr .i64 (x21 + 1))))) else (k4k))
def f124 (n : Nat) (a1 : (List ByteArray)) (a2 : ByteArray) : Option Int := (f124_l8 a1 a2 (f124_k4) n 0)
def f124_r (r : Int) : AV := (vI r)
theorem p_f124 {n : Nat} {a1 : (List ByteArray)} {a2 : ByteArray} {r : Int} (h : f124 n a1 a2 = some r) : PureSpec Tryz.prog 136 [(vL cS a1), (vS a2)] (f124_r r) := by
 rw [f124.eq_1] at h
 refine pure_of hmix ic136 ?_
 refine go_to (mkd (.val undef) 19 0 [(0, (vL cS a1)), (1, (vS a2))]) ?_
 refine s_so fun N3 k3 w3 => ?_
 refine o_r1 [(4, (vI 0))] ?_
 refine o_end (k3 _ ?_)
 refine J0 (r := r) ⟨(mkd .any 19 0 []), []⟩ (f124_k4) ?_ ?_
 · intro h
   rw [f124_k4.eq_1] at h
   refine s_so fun N34 k34 w34 => ?_
   refine o_r1 [(4, (vI (-1)))] ?_
   refine o_end (k34 _ ?_)
   exact c_ret (rets [] [(vI (-1))] [(vI (-1))] h)
 · intro N4 w4
   refine s_so fun N5 k5 w5 => ?_
   refine o_r1 [(6, (vL cS a1))] ?_
   refine o_o (one_len (f := cS) (l := a1)) ?_
   refine o_r1 [(8, (vI 0))] ?_
   refine o_end (k5 _ ?_)
   refine c_block fun E7 hE7 hO7 => ?_
   refine W1 (fun (x21 : Int) => ⟨(mkd .any 19 0 [(0, (vL cS a1)), (1, (vS a2)), (7, (vI (len a1))), (8, (vI x21))]), []⟩) (f124_l8 a1 a2 (f124_k4)) h (wkm [0, 1, 7, 8] wh_nil) (by intros; rw [f124_l8.eq_1]) ?_
   intro m8 x21 h N8 w8
   rw [f124_l8.eq_2] at h
   refine s_so fun N22 k22 w22 => ?_
   refine o_r1 [(9, (vB (decide (x21 < (len a1)))))] ?_
   refine o_end (k22 _ ?_)
   refine s_seq fun N23 k23 w23 => ?_
   refine i_c [9] h (fun h => ?_) (fun h => ?_)
   · refine c_skip (k23 _ ?_)
     refine s_seq fun N25 k25 w25 => ?_
     refine c_block fun E26 hE26 hO26 => ?_
     refine s_so fun N27 k27 w27 => ?_
     refine o_r2 [(5, (vI x21)), (10, (vI x21))] ?_
     refine o_end (k27 _ ?_)
     refine s_so fun N28 k28 w28 => ?_
     refine o_r3 [(11, (vS a2)), (12, (vL cS a1)), (13, (vI x21))] ?_
     refine bnd h fun x29 g30 h => ?_
     refine o_o (one_ia (f := cS) (ki := .i64) g30) ?_
     refine o_r1 [(15, (vS x29))] ?_
     refine o_o (one_sc (vs := [.string a2, .string x29]) (str_eql a2 x29)) ?_
     refine o_end (k28 _ ?_)
     refine i_c [16] h (fun h => ?_) (fun h => ?_)
     · refine s_so fun N33 k33 w33 => ?_
       refine o_r2 [(4, (vI x21)), (17, (vI x21))] ?_
       refine o_end (k33 _ ?_)
       exact c_ret (rets [] [(vI x21)] [(vI x21)] h)
     · refine c_skip (k25 _ ?_)
       refine c_ops ?_
       refine o_r2 [(8, (vI (wr .i64 (x21 + 1)))), (18, (vI (wr .i64 (x21 + 1))))] ?_
       exact o_end (w8 _ _ (wkm [0, 1, 7, 8] wh_nil) h)
   · refine c_exit (hE7 _ ?_)
     exact w4 _ (wkm [] wh_nil) h
theorem ic122 : fnIC Tryz.prog H0 122 = some ([.tmp 4], 9, (.seq (.ops [zO 4 (.mov (.c (.bool false)))]) (.seq (.ops [zM 5 0, zM 6 1, zO 7 (.call 136 [(.t 5), (.t 6)]), zO 8 (.sc (.bin .geq 3) [(.t 7), (.c (.int .i64 0))]), zM 4 8]) .ret))) := by kernel_rfl
def f91 (n : Nat) (a1 : (List ByteArray)) (a2 : ByteArray) : Option Bool := ((f124 n a1 a2).bind fun r5 => some (decide (r5 ≥ 0)))
def f91_r (r : Bool) : AV := (vB r)
theorem p_f91 {n : Nat} {a1 : (List ByteArray)} {a2 : ByteArray} {r : Bool} (h : f91 n a1 a2 = some r) : PureSpec Tryz.prog 122 [(vL cS a1), (vS a2)] (f91_r r) := by
 rw [f91.eq_1] at h
 refine pure_of hmix ic122 ?_
 refine go_to (mkd (.val undef) 9 0 [(0, (vL cS a1)), (1, (vS a2))]) ?_
 refine s_so fun N3 k3 w3 => ?_
 refine o_r1 [(4, (vB false))] ?_
 refine o_end (k3 _ ?_)
 refine s_so fun N4 k4 w4 => ?_
 refine o_r2 [(5, (vL cS a1)), (6, (vS a2))] ?_
 refine bnd h fun r5 g6 h => ?_
 refine o_o (one_call (p_f124 g6)) ?_
 refine o_r2 [(4, (vB (decide (r5 ≥ 0)))), (8, (vB (decide (r5 ≥ 0))))] ?_
 refine o_end (k4 _ ?_)
 exact c_ret (rets [] [(vB (decide (r5 ≥ 0)))] [(vB (decide (r5 ≥ 0)))] h)
theorem ic89 : fnIC Tryz.prog H0 89 = some ([.tmp 2], 11, (.seq (.ops [zO 2 (.mov (.c (.bool false)))]) (.seq (.ops [zM 3 0, zO 4 (.call 121 [(.t 3), (.c (.int .u8 65)), (.c (.int .u8 90))]), zM 5 4, zG 6 5 true (.isl 1 [(.c (.string ⟨#[73, 78, 84, 69, 71, 69, 82]⟩)), (.c (.string ⟨#[66, 79, 79, 76, 69, 65, 78]⟩)), (.c (.string ⟨#[65, 78, 89]⟩)), (.c (.string ⟨#[78, 79, 78, 69]⟩))]), zN 7 5 true 0, zG 8 5 true (.call 122 [(.t 6), (.t 7)]), zG 9 5 true (.sc (.un .not) [(.t 8)]), zO 10 (.pick (.t 5) (.t 9) (.c (.bool false))), zM 2 10]) .ret))) := by kernel_rfl
def f51_k3 (x9 : Bool) : Option Bool := some x9
def f51 (n : Nat) (a1 : ByteArray) : Option Bool := ((f90 n a1 65 90).bind fun r4 => (bif r4 then ((f91 n [(ByteArray.mk #[73, 78, 84, 69, 71, 69, 82]), (ByteArray.mk #[66, 79, 79, 76, 69, 65, 78]), (ByteArray.mk #[65, 78, 89]), (ByteArray.mk #[78, 79, 78, 69])] a1).bind fun r7 => (f51_k3 (!r7))) else (f51_k3 false)))
def f51_r (r : Bool) : AV := (vB r)
theorem p_f51 {n : Nat} {a1 : ByteArray} {r : Bool} (h : f51 n a1 = some r) : PureSpec Tryz.prog 89 [(vS a1)] (f51_r r) := by
 rw [f51.eq_1] at h
 refine pure_of hmix ic89 ?_
 refine go_to (mkd (.val undef) 11 0 [(0, (vS a1))]) ?_
 refine s_so fun N2 k2 w2 => ?_
 refine o_r1 [(2, (vB false))] ?_
 refine o_end (k2 _ ?_)
 refine J1 (r := r) (fun (x9 : Bool) => ⟨(mkd .any 11 0 [(2, (vB x9))]), []⟩) (f51_k3) ?_ ?_
 · intro x9 h
   rw [f51_k3.eq_1] at h
   exact c_ret (rets [] [(vB x9)] [(vB x9)] h)
 · intro N3 w3
   refine c_ops ?_
   refine o_r1 [(3, (vS a1))] ?_
   refine bnd h fun r4 g5 h => ?_
   refine o_o (one_call (p_f90 g5)) ?_
   refine o_r1 [(5, (vB r4))] ?_
   refine i_o [4, 5] h (fun h => ?_) (fun h => ?_)
   · refine o_r2 [(6, (vL cS [(ByteArray.mk #[73, 78, 84, 69, 71, 69, 82]), (ByteArray.mk #[66, 79, 79, 76, 69, 65, 78]), (ByteArray.mk #[65, 78, 89]), (ByteArray.mk #[78, 79, 78, 69])])), (7, (vS a1))] ?_
     refine bnd h fun r7 g8 h => ?_
     refine o_g ?_
     refine o_o (one_call (p_f91 g8)) ?_
     refine o_r3 [(2, (vB (!r7))), (9, (vB (!r7))), (10, (vB (!r7)))] ?_
     exact o_end (w3 _ _ (wkm [2] wh_nil) h)
   · refine o_r6 [(6, (.val undef)), (7, (.val undef)), (8, (.val undef)), (9, (.val undef)), (10, (vB false))] ?_
     exact o_end (w3 _ _ (wkm [2] wh_nil) h)
theorem ic81 : fnIC Tryz.prog H0 81 = some ([.tmp 4], 7, (.seq (.ops [zO 4 (.mov (.c (.int .i64 0)))]) (.seq (.seq (.ops [zM 5 0]) (.cond (.t 5)
  (.seq (.ops [zO 4 (.mov (.c (.int .i64 0)))]) .ret)
  .skip)) (.seq (.ops [zM 6 1, zM 4 6]) .ret)))) := by kernel_rfl
def f50 (n : Nat) (a1 : Bool) (a2 : Int) : Option Int := (bif a1 then some 0 else some a2)
def f50_r (r : Int) : AV := (vI r)
theorem p_f50 {n : Nat} {a1 : Bool} {a2 : Int} {r : Int} (h : f50 n a1 a2 = some r) : PureSpec Tryz.prog 81 [(vB a1), (vI a2)] (f50_r r) := by
 rw [f50.eq_1] at h
 refine pure_of hmix ic81 ?_
 refine go_to (mkd (.val undef) 7 0 [(0, (vB a1)), (1, (vI a2))]) ?_
 refine s_so fun N3 k3 w3 => ?_
 refine o_r1 [(4, (vI 0))] ?_
 refine o_end (k3 _ ?_)
 refine s_seq fun N4 k4 w4 => ?_
 refine s_so fun N5 k5 w5 => ?_
 refine o_r1 [(5, (vB a1))] ?_
 refine o_end (k5 _ ?_)
 refine i_c [0, 5] h (fun h => ?_) (fun h => ?_)
 · refine s_so fun N7 k7 w7 => ?_
   refine o_r1 [] ?_
   refine o_end (k7 _ ?_)
   exact c_ret (rets [] [(vI 0)] [(vI 0)] h)
 · refine c_skip (k4 _ ?_)
   refine s_so fun N8 k8 w8 => ?_
   refine o_r2 [(4, (vI a2)), (6, (vI a2))] ?_
   refine o_end (k8 _ ?_)
   exact c_ret (rets [] [(vI a2)] [(vI a2)] h)
theorem ic84 : fnIC Tryz.prog H0 84 = some ([.tmp 2], 5, (.seq (.ops [zO 1 (.box 0 66 [(1, 68, 3, 0)] (.t 0)), zO 2 (.mov (.c (.string ⟨#[]⟩)))]) (.seq (.ops [zO 3 (.faddr (.t 1) 0), zO 4 (.ld (.t 3) 1 false), zM 2 4]) .ret))) := by kernel_rfl
def f93 (n : Nat) (a1 : Form) : Option ByteArray := some a1.fName
def f93_r (r : ByteArray) : AV := (vS r)
theorem p_f93 {n : Nat} {a1 : Form} {r : ByteArray} (h : f93 n a1 = some r) : PureSpec Tryz.prog 84 [(.agg [(vS a1.fName), (vL Col.c a1.fCols)])] (f93_r r) := by
 rw [f93.eq_1] at h
 refine pure_of hmix ic84 ?_
 refine go_to (mkd (.val undef) 5 0 [(0, (.agg [(vS a1.fName), (vL Col.c a1.fCols)]))]) ?_
 refine s_so fun N2 k2 w2 => ?_
 refine o_h2 [(1, (.ptr 0 0)), (2, (vS (ByteArray.mk #[])))] [(some (.box 66 [(vS a1.fName), (vL Col.c a1.fCols)]))] ?_
 refine o_end (k2 _ ?_)
 refine s_so fun N3 k3 w3 => ?_
 refine o_r3 [(2, (vS a1.fName)), (3, (.ptr 0 0)), (4, (vS a1.fName))] ?_
 refine o_end (k3 _ ?_)
 exact c_ret (rets [] [(vS a1.fName)] [(vS a1.fName)] h)
theorem ic118 : fnIC Tryz.prog H0 118 = some ([.tmp 4], 10, (.seq (.ops [zO 3 (.box 0 66 [(1, 68, 3, 0)] (.t 0)), zO 4 (.mov (.c (.bool false)))]) (.seq (.draw [] [zQ (zO 5 (.ld (.t 1) 1 false)), zQ (zO 6 (.ld (.t 3) 2 true)), zQ (zO 7 (.callv (.t 5) [(.t 6)])), zQ (zO 8 (.ld (.t 2) 1 false)), zQ (zO 9 (.sc (.bin .eql 9) [(.t 7), (.t 8)])), zQ (zM 4 9)]) .ret))) := by kernel_rfl
def f126 (n : Nat) (a1 : Form) (a2 : ByteArray) : Option Bool := ((f93 n a1).bind fun r5 => some (sEqF r5 a2))
def f126_r (r : Bool) : AV := (vB r)
theorem p_f126 {n : Nat} {a1 : Form} {a2 : ByteArray} {r : Bool} (h : f126 n a1 a2 = some r) : PureSpec Tryz.prog 118 [(.agg [(vS a1.fName), (vL Col.c a1.fCols)]), (.iptr [(.fn 84 [])]), (.iptr [(vS a2)])] (f126_r r) := by
 rw [f126.eq_1] at h
 refine pure_of hmix ic118 ?_
 refine go_to (mkd (.val undef) 10 0 [(0, (.agg [(vS a1.fName), (vL Col.c a1.fCols)])), (1, (.iptr [(.fn 84 [])])), (2, (.iptr [(vS a2)]))]) ?_
 refine s_so fun N3 k3 w3 => ?_
 refine o_h2 [(3, (.ptr 0 0)), (4, (vB false))] [(some (.box 66 [(vS a1.fName), (vL Col.c a1.fCols)]))] ?_
 refine o_end (k3 _ ?_)
 refine s_seq fun N4 k4 w4 => ?_
 refine c_draw0 ?_
 refine d_r2 [(5, (.fn 84 [])), (6, (.agg [(vS a1.fName), (vL Col.c a1.fCols)]))] ?_
 refine bnd h fun r5 g6 h => ?_
 refine d_o (one_callv (caps := []) (p_f93 g6)) ?_
 refine d_r1 [(8, (vS a2))] ?_
 refine d_o (one_sc (vs := [.string r5, .string a2]) (str_eql r5 a2)) ?_
 refine d_r1 [(4, (vB (sEqF r5 a2)))] ?_
 refine d_end (k4 _ ?_)
 exact c_ret (rets [] [(vB (sEqF r5 a2))] [(vB (sEqF r5 a2))] h)
theorem ic117 : fnIC Tryz.prog H0 117 = some ([.tmp 4], 19, (.seq (.ops [zO 4 (.mov (.c (.int .i64 0)))]) (.seq (.seq (.ops [zM 6 0, zO 7 (.len false (.t 6)), zO 8 (.mov (.c (.int .i64 0)))]) (.block 0 (.loop (.seq (.ops [zO 9 (.sc (.bin .lss 3) [(.t 8), (.t 7)])]) (.seq (.cond (.t 9)
  .skip
  (.exit 0)) (.seq (.block 1 (.seq (.ops [zM 10 8, zM 5 10]) (.seq (.ops [zM 11 1, zM 12 0, zM 13 5, zO 14 (.iaddr 2 (.t 12) (.t 13)), zO 15 (.ld (.t 14) 2 true), zO 16 (.callv (.t 11) [(.t 15)])]) (.cond (.t 16)
  (.seq (.ops [zM 17 5, zM 4 17]) .ret)
  .skip)))) (.ops [zO 18 (.sc (.bin .add 3) [(.t 8), (.c (.int .i64 1))]), zM 8 18]))))))) (.seq (.ops [zO 4 (.mov (.c (.int .i64 (-1))))]) .ret)))) := by kernel_rfl
def f125_k4 : Option Int := some (-1)
def f125_l8 (a1 : (List Form)) (n : Nat) (a2 : ByteArray) (k4k : Option Int) : Nat → Int → Option Int
  | 0, _ => none
  | m8 + 1, x22 => (bif (decide (x22 < (len a1))) then ((gi a1 x22).bind fun x30 => ((f126 n x30 a2).bind fun r32 => (bif r32 then some x22 else (f125_l8 a1 n a2 (k4k) m8 (wr .i64 (x22 + 1)))))) else (k4k))
def f125 (n : Nat) (a1 : (List Form)) (a2 : ByteArray) : Option Int := (f125_l8 a1 n a2 (f125_k4) n 0)
def f125_r (r : Int) : AV := (vI r)
theorem p_f125 {n : Nat} {a1 : (List Form)} {a2 : ByteArray} {r : Int} (h : f125 n a1 a2 = some r) : PureSpec Tryz.prog 117 [(vL Form.c a1), (.fn 118 [(.iptr [(.fn 84 [])]), (.iptr [(vS a2)])])] (f125_r r) := by
 rw [f125.eq_1] at h
 refine pure_of hmix ic117 ?_
 refine go_to (mkd (.val undef) 19 0 [(0, (vL Form.c a1)), (1, (.fn 118 [(.iptr [(.fn 84 [])]), (.iptr [(vS a2)])]))]) ?_
 refine s_so fun N3 k3 w3 => ?_
 refine o_r1 [(4, (vI 0))] ?_
 refine o_end (k3 _ ?_)
 refine J0 (r := r) ⟨(mkd .any 19 0 []), []⟩ (f125_k4) ?_ ?_
 · intro h
   rw [f125_k4.eq_1] at h
   refine s_so fun N36 k36 w36 => ?_
   refine o_r1 [(4, (vI (-1)))] ?_
   refine o_end (k36 _ ?_)
   exact c_ret (rets [] [(vI (-1))] [(vI (-1))] h)
 · intro N4 w4
   refine s_so fun N5 k5 w5 => ?_
   refine o_r1 [(6, (vL Form.c a1))] ?_
   refine o_o (one_len (f := Form.c) (l := a1)) ?_
   refine o_r1 [(8, (vI 0))] ?_
   refine o_end (k5 _ ?_)
   refine c_block fun E7 hE7 hO7 => ?_
   refine W1 (fun (x22 : Int) => ⟨(mkd .any 19 0 [(0, (vL Form.c a1)), (1, (.fn 118 [(.iptr [(.fn 84 [])]), (.iptr [(vS a2)])])), (7, (vI (len a1))), (8, (vI x22))]), []⟩) (f125_l8 a1 n a2 (f125_k4)) h (wkm [0, 1, 7, 8] wh_nil) (by intros; rw [f125_l8.eq_1]) ?_
   intro m8 x22 h N8 w8
   rw [f125_l8.eq_2] at h
   refine s_so fun N23 k23 w23 => ?_
   refine o_r1 [(9, (vB (decide (x22 < (len a1)))))] ?_
   refine o_end (k23 _ ?_)
   refine s_seq fun N24 k24 w24 => ?_
   refine i_c [9] h (fun h => ?_) (fun h => ?_)
   · refine c_skip (k24 _ ?_)
     refine s_seq fun N26 k26 w26 => ?_
     refine c_block fun E27 hE27 hO27 => ?_
     refine s_so fun N28 k28 w28 => ?_
     refine o_r2 [(5, (vI x22)), (10, (vI x22))] ?_
     refine o_end (k28 _ ?_)
     refine s_so fun N29 k29 w29 => ?_
     refine o_r3 [(11, (.fn 118 [(.iptr [(.fn 84 [])]), (.iptr [(vS a2)])])), (12, (vL Form.c a1)), (13, (vI x22))] ?_
     refine bnd h fun x30 g31 h => ?_
     refine o_o (one_ia (f := Form.c) (ki := .i64) g31) ?_
     refine o_r1 [(15, (.agg [(vS x30.fName), (vL Col.c x30.fCols)]))] ?_
     refine bnd h fun r32 g33 h => ?_
     refine o_o (one_callv (caps := [(.iptr [(.fn 84 [])]), (.iptr [(vS a2)])]) (p_f126 g33)) ?_
     refine o_end (k29 _ ?_)
     refine i_c [16] h (fun h => ?_) (fun h => ?_)
     · refine s_so fun N35 k35 w35 => ?_
       refine o_r2 [(4, (vI x22)), (17, (vI x22))] ?_
       refine o_end (k35 _ ?_)
       exact c_ret (rets [] [(vI x22)] [(vI x22)] h)
     · refine c_skip (k26 _ ?_)
       refine c_ops ?_
       refine o_r2 [(8, (vI (wr .i64 (x22 + 1)))), (18, (vI (wr .i64 (x22 + 1))))] ?_
       exact o_end (w8 _ _ (wkm [0, 1, 7, 8] wh_nil) h)
   · refine c_exit (hE7 _ ?_)
     exact w4 _ (wkm [] wh_nil) h
theorem ic83 : fnIC Tryz.prog H0 83 = some ([.tmp 6], 10, (.seq (.ops [zO 4 (.box 0 9 [] (.t 1)), zO 5 (.box 0 140 [] (.t 2)), zO 6 (.mov (.c (.int .i64 0)))]) (.seq (.ops [zM 7 0, zO 8 (.mkf 118 [(.t 5), (.t 4)]), zO 9 (.call 117 [(.t 7), (.t 8)]), zM 6 9]) .ret))) := by kernel_rfl
def f92 (n : Nat) (a1 : (List Form)) (a2 : ByteArray) : Option Int := ((f125 n a1 a2).bind fun r5 => some r5)
def f92_r (r : Int) : AV := (vI r)
theorem p_f92 {n : Nat} {a1 : (List Form)} {a2 : ByteArray} {r : Int} (h : f92 n a1 a2 = some r) : PureSpec Tryz.prog 83 [(vL Form.c a1), (vS a2), (.fn 84 [])] (f92_r r) := by
 rw [f92.eq_1] at h
 refine pure_of hmix ic83 ?_
 refine go_to (mkd (.val undef) 10 0 [(0, (vL Form.c a1)), (1, (vS a2)), (2, (.fn 84 []))]) ?_
 refine s_so fun N3 k3 w3 => ?_
 refine o_h3 [(4, (.ptr 0 0)), (5, (.ptr 1 0)), (6, (vI 0))] [(some (.box 9 [(vS a2)])), (some (.box 140 [(.fn 84 [])]))] ?_
 refine o_end (k3 _ ?_)
 refine s_so fun N4 k4 w4 => ?_
 refine o_r2 [(7, (vL Form.c a1)), (8, (.fn 118 [(.ptr 1 0), (.ptr 0 0)]))] ?_
 refine bnd h fun r5 g6 h => ?_
 refine o_o (one_callT [1, 0] (p_f125 g6) (ns_v _)) ?_
 refine o_r1 [(6, (vI r5))] ?_
 refine o_end (k4 _ ?_)
 exact c_ret (rets [] [(vI r5)] [(vI r5)] h)
theorem ic37 : fnIC Tryz.prog H0 37 = some ([.tmp 4], 8, (.seq (.ops [zO 4 (.mov (.c (.int .i64 0)))]) (.seq (.ops [zM 5 0, zM 6 1, zO 7 (.call 83 [(.t 5), (.t 6), (.f 84)]), zM 4 7]) .ret))) := by kernel_rfl
def f52 (n : Nat) (a1 : (List Form)) (a2 : ByteArray) : Option Int := ((f92 n a1 a2).bind fun r5 => some r5)
def f52_r (r : Int) : AV := (vI r)
theorem p_f52 {n : Nat} {a1 : (List Form)} {a2 : ByteArray} {r : Int} (h : f52 n a1 a2 = some r) : PureSpec Tryz.prog 37 [(vL Form.c a1), (vS a2)] (f52_r r) := by
 rw [f52.eq_1] at h
 refine pure_of hmix ic37 ?_
 refine go_to (mkd (.val undef) 8 0 [(0, (vL Form.c a1)), (1, (vS a2))]) ?_
 refine s_so fun N3 k3 w3 => ?_
 refine o_r1 [(4, (vI 0))] ?_
 refine o_end (k3 _ ?_)
 refine s_so fun N4 k4 w4 => ?_
 refine o_r2 [(5, (vL Form.c a1)), (6, (vS a2))] ?_
 refine bnd h fun r5 g6 h => ?_
 refine o_o (one_call (p_f92 g6)) ?_
 refine o_r1 [(4, (vI r5))] ?_
 refine o_end (k4 _ ?_)
 exact c_ret (rets [] [(vI r5)] [(vI r5)] h)
theorem ic123 : fnIC Tryz.prog H0 123 = some ([.tmp 2], 11, (.seq (.ops [zO 2 (.mov (.c (.bool false)))]) (.seq (.ops [zM 3 0, zO 4 (.call 121 [(.t 3), (.c (.int .u8 97)), (.c (.int .u8 122))]), zM 5 4, zG 6 5 true (.isl 1 [(.c (.string ⟨#[116, 114, 117, 101]⟩)), (.c (.string ⟨#[102, 97, 108, 115, 101]⟩)), (.c (.string ⟨#[118, 111, 105, 100]⟩)), (.c (.string ⟨#[99, 117, 114, 114, 101, 110, 116]⟩)), (.c (.string ⟨#[114, 101, 115, 117, 108, 116]⟩))]), zN 7 5 true 0, zG 8 5 true (.call 122 [(.t 6), (.t 7)]), zG 9 5 true (.sc (.un .not) [(.t 8)]), zO 10 (.pick (.t 5) (.t 9) (.c (.bool false))), zM 2 10]) .ret))) := by kernel_rfl
def f94_k3 (x9 : Bool) : Option Bool := some x9
def f94 (n : Nat) (a1 : ByteArray) : Option Bool := ((f90 n a1 97 122).bind fun r4 => (bif r4 then ((f91 n [(ByteArray.mk #[116, 114, 117, 101]), (ByteArray.mk #[102, 97, 108, 115, 101]), (ByteArray.mk #[118, 111, 105, 100]), (ByteArray.mk #[99, 117, 114, 114, 101, 110, 116]), (ByteArray.mk #[114, 101, 115, 117, 108, 116])] a1).bind fun r7 => (f94_k3 (!r7))) else (f94_k3 false)))
def f94_r (r : Bool) : AV := (vB r)
theorem p_f94 {n : Nat} {a1 : ByteArray} {r : Bool} (h : f94 n a1 = some r) : PureSpec Tryz.prog 123 [(vS a1)] (f94_r r) := by
 rw [f94.eq_1] at h
 refine pure_of hmix ic123 ?_
 refine go_to (mkd (.val undef) 11 0 [(0, (vS a1))]) ?_
 refine s_so fun N2 k2 w2 => ?_
 refine o_r1 [(2, (vB false))] ?_
 refine o_end (k2 _ ?_)
 refine J1 (r := r) (fun (x9 : Bool) => ⟨(mkd .any 11 0 [(2, (vB x9))]), []⟩) (f94_k3) ?_ ?_
 · intro x9 h
   rw [f94_k3.eq_1] at h
   exact c_ret (rets [] [(vB x9)] [(vB x9)] h)
 · intro N3 w3
   refine c_ops ?_
   refine o_r1 [(3, (vS a1))] ?_
   refine bnd h fun r4 g5 h => ?_
   refine o_o (one_call (p_f90 g5)) ?_
   refine o_r1 [(5, (vB r4))] ?_
   refine i_o [4, 5] h (fun h => ?_) (fun h => ?_)
   · refine o_r2 [(6, (vL cS [(ByteArray.mk #[116, 114, 117, 101]), (ByteArray.mk #[102, 97, 108, 115, 101]), (ByteArray.mk #[118, 111, 105, 100]), (ByteArray.mk #[99, 117, 114, 114, 101, 110, 116]), (ByteArray.mk #[114, 101, 115, 117, 108, 116])])), (7, (vS a1))] ?_
     refine bnd h fun r7 g8 h => ?_
     refine o_g ?_
     refine o_o (one_call (p_f91 g8)) ?_
     refine o_r3 [(2, (vB (!r7))), (9, (vB (!r7))), (10, (vB (!r7)))] ?_
     exact o_end (w3 _ _ (wkm [2] wh_nil) h)
   · refine o_r6 [(6, (.val undef)), (7, (.val undef)), (8, (.val undef)), (9, (.val undef)), (10, (vB false))] ?_
     exact o_end (w3 _ _ (wkm [2] wh_nil) h)
theorem ic120 : fnIC Tryz.prog H0 120 = some ([.tmp 2], 5, (.seq (.ops [zO 1 (.box 0 68 [] (.t 0)), zO 2 (.mov (.c (.string ⟨#[]⟩)))]) (.seq (.ops [zO 3 (.faddr (.t 1) 0), zO 4 (.ld (.t 3) 1 false), zM 2 4]) .ret))) := by kernel_rfl
def f128 (n : Nat) (a1 : Col) : Option ByteArray := some a1.fName
def f128_r (r : ByteArray) : AV := (vS r)
theorem p_f128 {n : Nat} {a1 : Col} {r : ByteArray} (h : f128 n a1 = some r) : PureSpec Tryz.prog 120 [(.agg [(vS a1.fName), (vI a1.fKind), (vS a1.fClass)])] (f128_r r) := by
 rw [f128.eq_1] at h
 refine pure_of hmix ic120 ?_
 refine go_to (mkd (.val undef) 5 0 [(0, (.agg [(vS a1.fName), (vI a1.fKind), (vS a1.fClass)]))]) ?_
 refine s_so fun N2 k2 w2 => ?_
 refine o_h2 [(1, (.ptr 0 0)), (2, (vS (ByteArray.mk #[])))] [(some (.box 68 [(vS a1.fName), (vI a1.fKind), (vS a1.fClass)]))] ?_
 refine o_end (k2 _ ?_)
 refine s_so fun N3 k3 w3 => ?_
 refine o_r3 [(2, (vS a1.fName)), (3, (.ptr 0 0)), (4, (vS a1.fName))] ?_
 refine o_end (k3 _ ?_)
 exact c_ret (rets [] [(vS a1.fName)] [(vS a1.fName)] h)
theorem ic133 : fnIC Tryz.prog H0 133 = some ([.tmp 4], 10, (.seq (.ops [zO 3 (.box 0 68 [] (.t 0)), zO 4 (.mov (.c (.bool false)))]) (.seq (.draw [] [zQ (zO 5 (.ld (.t 1) 1 false)), zQ (zO 6 (.ld (.t 3) 3 true)), zQ (zO 7 (.callv (.t 5) [(.t 6)])), zQ (zO 8 (.ld (.t 2) 1 false)), zQ (zO 9 (.sc (.bin .eql 9) [(.t 7), (.t 8)])), zQ (zM 4 9)]) .ret))) := by kernel_rfl
def f145 (n : Nat) (a1 : Col) (a2 : ByteArray) : Option Bool := ((f128 n a1).bind fun r5 => some (sEqF r5 a2))
def f145_r (r : Bool) : AV := (vB r)
theorem p_f145 {n : Nat} {a1 : Col} {a2 : ByteArray} {r : Bool} (h : f145 n a1 a2 = some r) : PureSpec Tryz.prog 133 [(.agg [(vS a1.fName), (vI a1.fKind), (vS a1.fClass)]), (.iptr [(.fn 120 [])]), (.iptr [(vS a2)])] (f145_r r) := by
 rw [f145.eq_1] at h
 refine pure_of hmix ic133 ?_
 refine go_to (mkd (.val undef) 10 0 [(0, (.agg [(vS a1.fName), (vI a1.fKind), (vS a1.fClass)])), (1, (.iptr [(.fn 120 [])])), (2, (.iptr [(vS a2)]))]) ?_
 refine s_so fun N3 k3 w3 => ?_
 refine o_h2 [(3, (.ptr 0 0)), (4, (vB false))] [(some (.box 68 [(vS a1.fName), (vI a1.fKind), (vS a1.fClass)]))] ?_
 refine o_end (k3 _ ?_)
 refine s_seq fun N4 k4 w4 => ?_
 refine c_draw0 ?_
 refine d_r2 [(5, (.fn 120 [])), (6, (.agg [(vS a1.fName), (vI a1.fKind), (vS a1.fClass)]))] ?_
 refine bnd h fun r5 g6 h => ?_
 refine d_o (one_callv (caps := []) (p_f128 g6)) ?_
 refine d_r1 [(8, (vS a2))] ?_
 refine d_o (one_sc (vs := [.string r5, .string a2]) (str_eql r5 a2)) ?_
 refine d_r1 [(4, (vB (sEqF r5 a2)))] ?_
 refine d_end (k4 _ ?_)
 exact c_ret (rets [] [(vB (sEqF r5 a2))] [(vB (sEqF r5 a2))] h)
theorem ic132 : fnIC Tryz.prog H0 132 = some ([.tmp 4], 19, (.seq (.ops [zO 4 (.mov (.c (.int .i64 0)))]) (.seq (.seq (.ops [zM 6 0, zO 7 (.len false (.t 6)), zO 8 (.mov (.c (.int .i64 0)))]) (.block 0 (.loop (.seq (.ops [zO 9 (.sc (.bin .lss 3) [(.t 8), (.t 7)])]) (.seq (.cond (.t 9)
  .skip
  (.exit 0)) (.seq (.block 1 (.seq (.ops [zM 10 8, zM 5 10]) (.seq (.ops [zM 11 1, zM 12 0, zM 13 5, zO 14 (.iaddr 3 (.t 12) (.t 13)), zO 15 (.ld (.t 14) 3 true), zO 16 (.callv (.t 11) [(.t 15)])]) (.cond (.t 16)
  (.seq (.ops [zM 17 5, zM 4 17]) .ret)
  .skip)))) (.ops [zO 18 (.sc (.bin .add 3) [(.t 8), (.c (.int .i64 1))]), zM 8 18]))))))) (.seq (.ops [zO 4 (.mov (.c (.int .i64 (-1))))]) .ret)))) := by kernel_rfl
def f144_k4 : Option Int := some (-1)
def f144_l8 (a1 : (List Col)) (n : Nat) (a2 : ByteArray) (k4k : Option Int) : Nat → Int → Option Int
  | 0, _ => none
  | m8 + 1, x22 => (bif (decide (x22 < (len a1))) then ((gi a1 x22).bind fun x30 => ((f145 n x30 a2).bind fun r32 => (bif r32 then some x22 else (f144_l8 a1 n a2 (k4k) m8 (wr .i64 (x22 + 1)))))) else (k4k))
def f144 (n : Nat) (a1 : (List Col)) (a2 : ByteArray) : Option Int := (f144_l8 a1 n a2 (f144_k4) n 0)
def f144_r (r : Int) : AV := (vI r)
theorem p_f144 {n : Nat} {a1 : (List Col)} {a2 : ByteArray} {r : Int} (h : f144 n a1 a2 = some r) : PureSpec Tryz.prog 132 [(vL Col.c a1), (.fn 133 [(.iptr [(.fn 120 [])]), (.iptr [(vS a2)])])] (f144_r r) := by
 rw [f144.eq_1] at h
 refine pure_of hmix ic132 ?_
 refine go_to (mkd (.val undef) 19 0 [(0, (vL Col.c a1)), (1, (.fn 133 [(.iptr [(.fn 120 [])]), (.iptr [(vS a2)])]))]) ?_
 refine s_so fun N3 k3 w3 => ?_
 refine o_r1 [(4, (vI 0))] ?_
 refine o_end (k3 _ ?_)
 refine J0 (r := r) ⟨(mkd .any 19 0 []), []⟩ (f144_k4) ?_ ?_
 · intro h
   rw [f144_k4.eq_1] at h
   refine s_so fun N36 k36 w36 => ?_
   refine o_r1 [(4, (vI (-1)))] ?_
   refine o_end (k36 _ ?_)
   exact c_ret (rets [] [(vI (-1))] [(vI (-1))] h)
 · intro N4 w4
   refine s_so fun N5 k5 w5 => ?_
   refine o_r1 [(6, (vL Col.c a1))] ?_
   refine o_o (one_len (f := Col.c) (l := a1)) ?_
   refine o_r1 [(8, (vI 0))] ?_
   refine o_end (k5 _ ?_)
   refine c_block fun E7 hE7 hO7 => ?_
   refine W1 (fun (x22 : Int) => ⟨(mkd .any 19 0 [(0, (vL Col.c a1)), (1, (.fn 133 [(.iptr [(.fn 120 [])]), (.iptr [(vS a2)])])), (7, (vI (len a1))), (8, (vI x22))]), []⟩) (f144_l8 a1 n a2 (f144_k4)) h (wkm [0, 1, 7, 8] wh_nil) (by intros; rw [f144_l8.eq_1]) ?_
   intro m8 x22 h N8 w8
   rw [f144_l8.eq_2] at h
   refine s_so fun N23 k23 w23 => ?_
   refine o_r1 [(9, (vB (decide (x22 < (len a1)))))] ?_
   refine o_end (k23 _ ?_)
   refine s_seq fun N24 k24 w24 => ?_
   refine i_c [9] h (fun h => ?_) (fun h => ?_)
   · refine c_skip (k24 _ ?_)
     refine s_seq fun N26 k26 w26 => ?_
     refine c_block fun E27 hE27 hO27 => ?_
     refine s_so fun N28 k28 w28 => ?_
     refine o_r2 [(5, (vI x22)), (10, (vI x22))] ?_
     refine o_end (k28 _ ?_)
     refine s_so fun N29 k29 w29 => ?_
     refine o_r3 [(11, (.fn 133 [(.iptr [(.fn 120 [])]), (.iptr [(vS a2)])])), (12, (vL Col.c a1)), (13, (vI x22))] ?_
     refine bnd h fun x30 g31 h => ?_
     refine o_o (one_ia (f := Col.c) (ki := .i64) g31) ?_
     refine o_r1 [(15, (.agg [(vS x30.fName), (vI x30.fKind), (vS x30.fClass)]))] ?_
     refine bnd h fun r32 g33 h => ?_
     refine o_o (one_callv (caps := [(.iptr [(.fn 120 [])]), (.iptr [(vS a2)])]) (p_f145 g33)) ?_
     refine o_end (k29 _ ?_)
     refine i_c [16] h (fun h => ?_) (fun h => ?_)
     · refine s_so fun N35 k35 w35 => ?_
       refine o_r2 [(4, (vI x22)), (17, (vI x22))] ?_
       refine o_end (k35 _ ?_)
       exact c_ret (rets [] [(vI x22)] [(vI x22)] h)
     · refine c_skip (k26 _ ?_)
       refine c_ops ?_
       refine o_r2 [(8, (vI (wr .i64 (x22 + 1)))), (18, (vI (wr .i64 (x22 + 1))))] ?_
       exact o_end (w8 _ _ (wkm [0, 1, 7, 8] wh_nil) h)
   · refine c_exit (hE7 _ ?_)
     exact w4 _ (wkm [] wh_nil) h
theorem ic119 : fnIC Tryz.prog H0 119 = some ([.tmp 6], 10, (.seq (.ops [zO 4 (.box 0 9 [] (.t 1)), zO 5 (.box 0 177 [] (.t 2)), zO 6 (.mov (.c (.int .i64 0)))]) (.seq (.ops [zM 7 0, zO 8 (.mkf 133 [(.t 5), (.t 4)]), zO 9 (.call 132 [(.t 7), (.t 8)]), zM 6 9]) .ret))) := by kernel_rfl
def f127 (n : Nat) (a1 : (List Col)) (a2 : ByteArray) : Option Int := ((f144 n a1 a2).bind fun r5 => some r5)
def f127_r (r : Int) : AV := (vI r)
theorem p_f127 {n : Nat} {a1 : (List Col)} {a2 : ByteArray} {r : Int} (h : f127 n a1 a2 = some r) : PureSpec Tryz.prog 119 [(vL Col.c a1), (vS a2), (.fn 120 [])] (f127_r r) := by
 rw [f127.eq_1] at h
 refine pure_of hmix ic119 ?_
 refine go_to (mkd (.val undef) 10 0 [(0, (vL Col.c a1)), (1, (vS a2)), (2, (.fn 120 []))]) ?_
 refine s_so fun N3 k3 w3 => ?_
 refine o_h3 [(4, (.ptr 0 0)), (5, (.ptr 1 0)), (6, (vI 0))] [(some (.box 9 [(vS a2)])), (some (.box 177 [(.fn 120 [])]))] ?_
 refine o_end (k3 _ ?_)
 refine s_so fun N4 k4 w4 => ?_
 refine o_r2 [(7, (vL Col.c a1)), (8, (.fn 133 [(.ptr 1 0), (.ptr 0 0)]))] ?_
 refine bnd h fun r5 g6 h => ?_
 refine o_o (one_callT [1, 0] (p_f144 g6) (ns_v _)) ?_
 refine o_r1 [(6, (vI r5))] ?_
 refine o_end (k4 _ ?_)
 exact c_ret (rets [] [(vI r5)] [(vI r5)] h)
theorem ic85 : fnIC Tryz.prog H0 85 = some ([.tmp 4], 8, (.seq (.ops [zO 4 (.mov (.c (.int .i64 0)))]) (.seq (.ops [zM 5 0, zM 6 1, zO 7 (.call 119 [(.t 5), (.t 6), (.f 120)]), zM 4 7]) .ret))) := by kernel_rfl
def f95 (n : Nat) (a1 : (List Col)) (a2 : ByteArray) : Option Int := ((f127 n a1 a2).bind fun r5 => some r5)
def f95_r (r : Int) : AV := (vI r)
theorem p_f95 {n : Nat} {a1 : (List Col)} {a2 : ByteArray} {r : Int} (h : f95 n a1 a2 = some r) : PureSpec Tryz.prog 85 [(vL Col.c a1), (vS a2)] (f95_r r) := by
 rw [f95.eq_1] at h
 refine pure_of hmix ic85 ?_
 refine go_to (mkd (.val undef) 8 0 [(0, (vL Col.c a1)), (1, (vS a2))]) ?_
 refine s_so fun N3 k3 w3 => ?_
 refine o_r1 [(4, (vI 0))] ?_
 refine o_end (k3 _ ?_)
 refine s_so fun N4 k4 w4 => ?_
 refine o_r2 [(5, (vL Col.c a1)), (6, (vS a2))] ?_
 refine bnd h fun r5 g6 h => ?_
 refine o_o (one_call (p_f127 g6)) ?_
 refine o_r1 [(4, (vI r5))] ?_
 refine o_end (k4 _ ?_)
 exact c_ret (rets [] [(vI r5)] [(vI r5)] h)
theorem ic86 : fnIC Tryz.prog H0 86 = some ([.tmp 6], 15, (.seq (.ops [zO 6 (.mov (.c (.bool false)))]) (.seq (.ops [zM 7 1, zM 8 0, zO 9 (.sc (.bin .leq 3) [(.t 7), (.t 8)]), zM 10 9, zN 11 10 true 0, zN 12 10 true 2, zG 13 10 true (.sc (.bin .leq 3) [(.t 11), (.t 12)]), zO 14 (.pick (.t 10) (.t 13) (.c (.bool false))), zM 6 14]) .ret))) := by kernel_rfl
def f86_k5 (x7 : Bool) : Option Bool := some x7
def f86 (n : Nat) (a1 : Int) (a2 : Int) (a3 : Int) : Option Bool := (bif (decide (a2 ≤ a1)) then (f86_k5 (decide (a1 ≤ a3))) else (f86_k5 false))
def f86_r (r : Bool) : AV := (vB r)
theorem p_f86 {n : Nat} {a1 : Int} {a2 : Int} {a3 : Int} {r : Bool} (h : f86 n a1 a2 a3 = some r) : PureSpec Tryz.prog 86 [(vI a1), (vI a2), (vI a3)] (f86_r r) := by
 rw [f86.eq_1] at h
 refine pure_of hmix ic86 ?_
 refine go_to (mkd (.val undef) 15 0 [(0, (vI a1)), (1, (vI a2)), (2, (vI a3))]) ?_
 refine s_so fun N4 k4 w4 => ?_
 refine o_r1 [(6, (vB false))] ?_
 refine o_end (k4 _ ?_)
 refine J1 (r := r) (fun (x7 : Bool) => ⟨(mkd .any 15 0 [(6, (vB x7))]), []⟩) (f86_k5) ?_ ?_
 · intro x7 h
   rw [f86_k5.eq_1] at h
   exact c_ret (rets [] [(vB x7)] [(vB x7)] h)
 · intro N5 w5
   refine c_ops ?_
   refine o_r4 [(7, (vI a2)), (8, (vI a1)), (9, (vB (decide (a2 ≤ a1)))), (10, (vB (decide (a2 ≤ a1))))] ?_
   refine i_o [9, 10] h (fun h => ?_) (fun h => ?_)
   · refine o_r5 [(6, (vB (decide (a1 ≤ a3)))), (11, (vI a1)), (12, (vI a3)), (13, (vB (decide (a1 ≤ a3)))), (14, (vB (decide (a1 ≤ a3))))] ?_
     exact o_end (w5 _ _ (wkm [6] wh_nil) h)
   · refine o_r5 [(11, (.val undef)), (12, (.val undef)), (13, (.val undef)), (14, (vB false))] ?_
     exact o_end (w5 _ _ (wkm [6] wh_nil) h)
theorem ic90 : fnIC Tryz.prog H0 90 = some ([.tmp 2], 41, (.seq (.ops [zO 2 (.mov (.c (.int .i64 0)))]) (.seq (.seq (.ops [zM 5 0, zO 6 (.len false (.t 5)), zO 7 (.sc (.bin .gtr 3) [(.t 6), (.c (.int .i64 30))])]) (.cond (.t 7)
  (.seq (.ops [zO 2 (.mov (.c (.int .i64 3)))]) .ret)
  .skip)) (.seq (.seq (.ops [zM 8 0, zO 9 (.len false (.t 8)), zO 10 (.mov (.c (.int .i64 0)))]) (.block 0 (.loop (.seq (.ops [zO 11 (.sc (.bin .lss 3) [(.t 10), (.t 9)])]) (.seq (.cond (.t 11)
  .skip
  (.exit 0)) (.seq (.block 1 (.seq (.ops [zM 12 10, zO 13 (.iaddr 3 (.t 8) (.t 10)), zO 14 (.ld (.t 13) 3 true), zO 4 (.alloc 0 68 [] [(.string ⟨#[]⟩), (.int .i64 0), (.string ⟨#[]⟩)]), zM 3 12, zU (.st true 3 [] (.t 4) (.t 14))]) (.seq (.seq (.ops [zO 15 (.faddr (.t 4) 0), zO 16 (.ld (.t 15) 1 false), zO 17 (.call 123 [(.t 16)]), zO 18 (.sc (.un .not) [(.t 17)])]) (.cond (.t 18)
  (.seq (.ops [zO 2 (.mov (.c (.int .i64 4)))]) .ret)
  .skip)) (.seq (.seq (.draw [] [zQ (zM 19 0), zQ (zM 20 3), zQ (zO 21 (.lsl 3 (.t 19) none (some (.t 20)))), zQ (zO 22 (.faddr (.t 4) 0)), zQ (zO 23 (.ld (.t 22) 1 false)), zQ (zO 24 (.call 85 [(.t 21), (.t 23)])), zQ (zO 25 (.sc (.bin .geq 3) [(.t 24), (.c (.int .i64 0))]))]) (.cond (.t 25)
  (.seq (.ops [zO 2 (.mov (.c (.int .i64 6)))]) .ret)
  .skip)) (.seq (.ops [zO 26 (.faddr (.t 4) 1), zO 27 (.ld (.t 26) 1 false), zO 28 (.call 86 [(.t 27), (.c (.int .i64 1)), (.c (.int .i64 3))]), zO 29 (.sc (.un .not) [(.t 28)]), zM 30 29, zG 31 30 false (.faddr (.t 4) 1), zG 32 30 false (.ld (.t 31) 1 false), zG 33 30 false (.sc (.bin .neq 3) [(.t 32), (.c (.int .i64 3))]), zN 34 30 false 33, zG 35 34 true (.faddr (.t 4) 2), zG 36 34 true (.ld (.t 35) 1 false), zG 37 34 true (.sc (.bin .neq 9) [(.t 36), (.c (.string ⟨#[]⟩))]), zG 38 30 false (.pick (.t 34) (.t 37) (.c (.bool false))), zO 39 (.pick (.t 30) (.c (.bool true)) (.t 38))]) (.cond (.t 39)
  (.seq (.ops [zO 2 (.mov (.c (.int .i64 1)))]) .ret)
  .skip)))))) (.ops [zO 40 (.sc (.bin .add 3) [(.t 10), (.c (.int .i64 1))]), zM 10 40]))))))) (.seq (.ops [zO 2 (.mov (.c (.int .i64 0)))]) .ret))))) := by kernel_rfl
def f53_k67 (x44 : Int) (c12k : Int → Option Int) (x73 : Bool) : Option Int := (bif x73 then some 1 else (c12k (wr .i64 (x44 + 1))))
def f53_k8 : Option Int := some 0
def f53_l12 (a1 : (List Col)) (n : Nat) (k8k : Option Int) : Nat → Int → Option Int
  | 0, _ => none
  | m12 + 1, x44 => (bif (decide (x44 < (len a1))) then ((gi a1 x44).bind fun x51 => ((f94 n x51.fName).bind fun r55 => (bif (!r55) then some 4 else ((sli a1 0 x44).bind fun l61 => ((f95 n l61 x51.fName).bind fun r63 => (bif (decide (r63 ≥ 0)) then some 6 else ((f86 n x51.fKind 1 3).bind fun r68 => (bif (!r68) then (f53_k67 x44 (f53_l12 a1 n (k8k) m12) true) else (bif (x51.fKind != 3) then (f53_k67 x44 (f53_l12 a1 n (k8k) m12) (!(sEqF x51.fClass (ByteArray.mk #[])))) else (f53_k67 x44 (f53_l12 a1 n (k8k) m12) false)))))))))) else (k8k))
def f53 (n : Nat) (a1 : (List Col)) : Option Int := (bif (decide ((len a1) > 30)) then some 3 else (f53_l12 a1 n (f53_k8) n 0))
def f53_r (r : Int) : AV := (vI r)
theorem p_f53 {n : Nat} {a1 : (List Col)} {r : Int} (h : f53 n a1 = some r) : PureSpec Tryz.prog 90 [(vL Col.c a1)] (f53_r r) := by
 rw [f53.eq_1] at h
 refine pure_of hmix ic90 ?_
 refine go_to (mkd (.val undef) 41 0 [(0, (vL Col.c a1))]) ?_
 refine s_so fun N2 k2 w2 => ?_
 refine o_r1 [(2, (vI 0))] ?_
 refine o_end (k2 _ ?_)
 refine s_seq fun N3 k3 w3 => ?_
 refine s_so fun N4 k4 w4 => ?_
 refine o_r1 [(5, (vL Col.c a1))] ?_
 refine o_o (one_len (f := Col.c) (l := a1)) ?_
 refine o_r1 [(7, (vB (decide ((len a1) > 30))))] ?_
 refine o_end (k4 _ ?_)
 refine i_c [7] h (fun h => ?_) (fun h => ?_)
 · refine s_so fun N7 k7 w7 => ?_
   refine o_r1 [(2, (vI 3))] ?_
   refine o_end (k7 _ ?_)
   exact c_ret (rets [] [(vI 3)] [(vI 3)] h)
 · refine c_skip (k3 _ ?_)
   refine J0 (r := r) ⟨(mkd .any 41 0 []), []⟩ (f53_k8) ?_ ?_
   · intro h
     rw [f53_k8.eq_1] at h
     refine s_so fun N76 k76 w76 => ?_
     refine o_r1 [(2, (vI 0))] ?_
     refine o_end (k76 _ ?_)
     exact c_ret (rets [] [(vI 0)] [(vI 0)] h)
   · intro N8 w8
     refine s_so fun N9 k9 w9 => ?_
     refine o_r1 [(8, (vL Col.c a1))] ?_
     refine o_o (one_len (f := Col.c) (l := a1)) ?_
     refine o_r1 [(10, (vI 0))] ?_
     refine o_end (k9 _ ?_)
     refine c_block fun E11 hE11 hO11 => ?_
     refine W1 (fun (x44 : Int) => ⟨(mkd .any 41 0 [(0, (vL Col.c a1)), (8, (vL Col.c a1)), (9, (vI (len a1))), (10, (vI x44))]), []⟩) (f53_l12 a1 n (f53_k8)) h (wkm [0, 8, 9, 10] wh_nil) (by intros; rw [f53_l12.eq_1]) ?_
     intro m12 x44 h N12 w12
     rw [f53_l12.eq_2] at h
     refine s_so fun N45 k45 w45 => ?_
     refine o_r1 [(11, (vB (decide (x44 < (len a1)))))] ?_
     refine o_end (k45 _ ?_)
     refine s_seq fun N46 k46 w46 => ?_
     refine i_c [11] h (fun h => ?_) (fun h => ?_)
     · refine c_skip (k46 _ ?_)
       refine s_seq fun N48 k48 w48 => ?_
       refine c_block fun E49 hE49 hO49 => ?_
       refine s_so fun N50 k50 w50 => ?_
       refine o_r1 [(12, (vI x44))] ?_
       refine bnd h fun x51 g52 h => ?_
       refine o_o (one_ia (f := Col.c) (ki := .i64) g52) ?_
       refine o_h4 [(3, (vI x44)), (4, (.ptr 0 0)), (14, (.agg [(vS x51.fName), (vI x51.fKind), (vS x51.fClass)]))] [(some (.box 68 [(vS x51.fName), (vI x51.fKind), (vS x51.fClass)]))] ?_
       refine o_end (k50 _ ?_)
       refine s_seq fun N53 k53 w53 => ?_
       refine s_so fun N54 k54 w54 => ?_
       refine o_r2 [(15, (.ptr 0 0)), (16, (vS x51.fName))] ?_
       refine bnd h fun r55 g56 h => ?_
       refine o_o (one_call (p_f94 g56)) ?_
       refine o_r1 [(18, (vB (!r55)))] ?_
       refine o_end (k54 _ ?_)
       refine i_c [18] h (fun h => ?_) (fun h => ?_)
       · refine s_so fun N58 k58 w58 => ?_
         refine o_r1 [(2, (vI 4))] ?_
         refine o_end (k58 _ ?_)
         exact c_ret (rets [] [(vI 4)] [(vI 4)] h)
       · refine c_skip (k53 _ ?_)
         refine s_seq fun N59 k59 w59 => ?_
         refine s_seq fun N60 k60 w60 => ?_
         refine c_draw0 ?_
         refine d_r2 [(19, (vL Col.c a1)), (20, (vI x44))] ?_
         refine bnd h fun l61 g62 h => ?_
         refine d_o (one_lsl (f := Col.c) g62 (fun _ => rfl)) ?_
         refine d_r2 [(22, (.ptr 0 0)), (23, (vS x51.fName))] ?_
         refine t_tm (mkd .any 41 0 [(0, (vL Col.c a1)), (3, (vI x44)), (4, (.ptr 0 0)), (8, (vL Col.c a1)), (9, (vI (len a1))), (10, (vI x44)), (11, (vB true)), (12, (vI x44)), (13, (.iptr [(vS x51.fName), (vI x51.fKind), (vS x51.fClass)])), (14, (.agg [(vS x51.fName), (vI x51.fKind), (vS x51.fClass)])), (15, (.ptr 0 0)), (16, (vS x51.fName)), (17, (vB r55)), (18, (vB false)), (19, (vL Col.c a1)), (20, (vI x44)), (21, (vL Col.c l61)), (22, (.ptr 0 0)), (23, (vS x51.fName))]) ?_
         refine bnd h fun r63 g64 h => ?_
         refine d_o (one_call (p_f95 g64)) ?_
         refine d_r1 [(25, (vB (decide (r63 ≥ 0))))] ?_
         refine d_end (k60 _ ?_)
         refine i_c [25] h (fun h => ?_) (fun h => ?_)
         · refine s_so fun N66 k66 w66 => ?_
           refine o_r1 [(2, (vI 6))] ?_
           refine o_end (w66 _ ⟨(mkd .any 41 0 [(2, (vI 6))]), []⟩ (wkm [2] wh_nil) ?_)
           exact c_ret (rets [] [(vI 6)] [(vI 6)] h)
         · refine c_skip (w59 _ ⟨(mkd .any 41 0 [(0, (vL Col.c a1)), (4, (.ptr 0 0)), (8, (vL Col.c a1)), (9, (vI (len a1))), (10, (vI x44))]), [(some (.box 68 [(vS x51.fName), (vI x51.fKind), (vS x51.fClass)]))]⟩ (wkm [0, 4, 8, 9, 10] (whk wh_nil)) ?_)
           refine J1 (r := r) (fun (x73 : Bool) => ⟨(mkd .any 41 0 [(0, (vL Col.c a1)), (8, (vL Col.c a1)), (9, (vI (len a1))), (10, (vI x44)), (39, (vB x73))]), []⟩) (f53_k67 x44 (f53_l12 a1 n (f53_k8) m12)) ?_ ?_
           · intro x73 h
             rw [f53_k67.eq_1] at h
             refine i_c [39] h (fun h => ?_) (fun h => ?_)
             · refine s_so fun N75 k75 w75 => ?_
               refine o_r1 [(2, (vI 1))] ?_
               refine o_end (k75 _ ?_)
               exact c_ret (rets [] [(vI 1)] [(vI 1)] h)
             · refine c_skip (k48 _ ?_)
               refine c_ops ?_
               refine o_r2 [(10, (vI (wr .i64 (x44 + 1)))), (40, (vI (wr .i64 (x44 + 1))))] ?_
               exact o_end (w12 _ _ (wkm [0, 8, 9, 10] wh_nil) h)
           · intro N67 w67
             refine c_ops ?_
             refine o_r2 [(26, (.ptr 0 1)), (27, (vI x51.fKind))] ?_
             refine bnd h fun r68 g69 h => ?_
             refine o_o (one_call (p_f86 g69)) ?_
             refine o_r2 [(29, (vB (!r68))), (30, (vB (!r68)))] ?_
             refine i_o [29, 30] h (fun h => ?_) (fun h => ?_)
             · refine o_r9 [(31, (.val undef)), (32, (.val undef)), (33, (.val undef)), (34, (.val undef)), (35, (.val undef)), (36, (.val undef)), (37, (.val undef)), (38, (.val undef)), (39, (vB true))] ?_
               exact o_end (w67 _ _ (wkm [0, 8, 9, 10, 39] wh_nil) h)
             · refine o_r4 [(31, (.ptr 0 1)), (32, (vI x51.fKind)), (33, (vB (x51.fKind != 3))), (34, (vB (x51.fKind != 3)))] ?_
               refine i_o [33, 34] h (fun h => ?_) (fun h => ?_)
               · refine o_r2 [(35, (.ptr 0 2)), (36, (vS x51.fClass))] ?_
                 refine o_g ?_
                 refine o_o (one_sc (vs := [.string x51.fClass, .string (ByteArray.mk #[])]) (str_neq x51.fClass (ByteArray.mk #[]))) ?_
                 refine o_r2 [(38, (vB (!(sEqF x51.fClass (ByteArray.mk #[]))))), (39, (vB (!(sEqF x51.fClass (ByteArray.mk #[])))))] ?_
                 exact o_end (w67 _ _ (wkm [0, 8, 9, 10, 39] wh_nil) h)
               · refine o_r5 [(35, (.val undef)), (36, (.val undef)), (37, (.val undef)), (38, (vB false)), (39, (vB false))] ?_
                 exact o_end (w67 _ _ (wkm [0, 8, 9, 10, 39] wh_nil) h)
     · refine c_exit (hE11 _ ?_)
       exact w8 _ (wkm [] wh_nil) h
theorem ic33 : fnIC Tryz.prog H0 33 = some ([.tmp 2], 15, (.seq (.ops [zO 2 (.mov (.c (.int .i64 0)))]) (.seq (.seq (.ops [zM 5 0, zO 6 (.len false (.t 5)), zO 7 (.mov (.c (.int .i64 0)))]) (.block 0 (.loop (.seq (.ops [zO 8 (.sc (.bin .lss 3) [(.t 7), (.t 6)])]) (.seq (.cond (.t 8)
  .skip
  (.exit 0)) (.seq (.block 1 (.seq (.ops [zO 9 (.iaddr 1 (.t 5) (.t 7)), zO 10 (.ld (.t 9) 1 false), zM 4 10]) (.seq (.ops [zM 11 4, zO 12 (.sc (.bin .neq 34) [(.t 11), (.c (.int .i64 0))])]) (.cond (.t 12)
  (.seq (.ops [zM 13 4, zM 2 13]) .ret)
  .skip)))) (.ops [zO 14 (.sc (.bin .add 3) [(.t 7), (.c (.int .i64 1))]), zM 7 14]))))))) (.seq (.ops [zO 2 (.mov (.c (.int .i64 0)))]) .ret)))) := by kernel_rfl
def f49_k3 : Option Int := some 0
def f49_l7 (a1 : (List Int)) (k3k : Option Int) : Nat → Int → Option Int
  | 0, _ => none
  | m7 + 1, x19 => (bif (decide (x19 < (len a1))) then ((gi a1 x19).bind fun x26 => (bif (x26 != 0) then some x26 else (f49_l7 a1 (k3k) m7 (wr .i64 (x19 + 1))))) else (k3k))
def f49 (n : Nat) (a1 : (List Int)) : Option Int := (f49_l7 a1 (f49_k3) n 0)
def f49_r (r : Int) : AV := (vI r)
theorem p_f49 {n : Nat} {a1 : (List Int)} {r : Int} (h : f49 n a1 = some r) : PureSpec Tryz.prog 33 [(vL cI a1)] (f49_r r) := by
 rw [f49.eq_1] at h
 refine pure_of hmix ic33 ?_
 refine go_to (mkd (.val undef) 15 0 [(0, (vL cI a1))]) ?_
 refine s_so fun N2 k2 w2 => ?_
 refine o_r1 [(2, (vI 0))] ?_
 refine o_end (k2 _ ?_)
 refine J0 (r := r) ⟨(mkd .any 15 0 []), []⟩ (f49_k3) ?_ ?_
 · intro h
   rw [f49_k3.eq_1] at h
   refine s_so fun N31 k31 w31 => ?_
   refine o_r1 [(2, (vI 0))] ?_
   refine o_end (k31 _ ?_)
   exact c_ret (rets [] [(vI 0)] [(vI 0)] h)
 · intro N3 w3
   refine s_so fun N4 k4 w4 => ?_
   refine o_r1 [(5, (vL cI a1))] ?_
   refine o_o (one_len (f := cI) (l := a1)) ?_
   refine o_r1 [(7, (vI 0))] ?_
   refine o_end (k4 _ ?_)
   refine c_block fun E6 hE6 hO6 => ?_
   refine W1 (fun (x19 : Int) => ⟨(mkd .any 15 0 [(5, (vL cI a1)), (6, (vI (len a1))), (7, (vI x19))]), []⟩) (f49_l7 a1 (f49_k3)) h (wkm [5, 6, 7] wh_nil) (by intros; rw [f49_l7.eq_1]) ?_
   intro m7 x19 h N7 w7
   rw [f49_l7.eq_2] at h
   refine s_so fun N20 k20 w20 => ?_
   refine o_r1 [(8, (vB (decide (x19 < (len a1)))))] ?_
   refine o_end (k20 _ ?_)
   refine s_seq fun N21 k21 w21 => ?_
   refine i_c [8] h (fun h => ?_) (fun h => ?_)
   · refine c_skip (k21 _ ?_)
     refine s_seq fun N23 k23 w23 => ?_
     refine c_block fun E24 hE24 hO24 => ?_
     refine s_so fun N25 k25 w25 => ?_
     refine bnd h fun x26 g27 h => ?_
     refine o_o (one_ia (f := cI) (ki := .i64) g27) ?_
     refine o_r2 [(4, (vI x26)), (10, (vI x26))] ?_
     refine o_end (k25 _ ?_)
     refine s_so fun N28 k28 w28 => ?_
     refine o_r2 [(11, (vI x26)), (12, (vB (x26 != 0)))] ?_
     refine o_end (k28 _ ?_)
     refine i_c [12] h (fun h => ?_) (fun h => ?_)
     · refine s_so fun N30 k30 w30 => ?_
       refine o_r2 [(2, (vI x26)), (13, (vI x26))] ?_
       refine o_end (k30 _ ?_)
       exact c_ret (rets [] [(vI x26)] [(vI x26)] h)
     · refine c_skip (k23 _ ?_)
       refine c_ops ?_
       refine o_r2 [(7, (vI (wr .i64 (x19 + 1)))), (14, (vI (wr .i64 (x19 + 1))))] ?_
       exact o_end (w7 _ _ (wkm [5, 6, 7] wh_nil) h)
   · refine c_exit (hE6 _ ?_)
     exact w3 _ (wkm [] wh_nil) h
theorem ic44 : fnIC Tryz.prog H0 44 = some ([.tmp 2], 71, (.seq (.ops [zO 2 (.mov (.c (.int .i64 0)))]) (.seq (.seq (.ops [zM 10 0, zO 11 (.len false (.t 10)), zO 12 (.sc (.bin .gtr 3) [(.t 11), (.c (.int .i64 24))])]) (.cond (.t 12)
  (.seq (.ops [zO 2 (.mov (.c (.int .i64 3)))]) .ret)
  .skip)) (.seq (.seq (.ops [zM 13 0, zO 14 (.len false (.t 13)), zO 15 (.mov (.c (.int .i64 0)))]) (.block 0 (.loop (.seq (.ops [zO 16 (.sc (.bin .lss 3) [(.t 15), (.t 14)])]) (.seq (.cond (.t 16)
  .skip
  (.exit 0)) (.seq (.block 1 (.seq (.ops [zM 17 15, zO 18 (.iaddr 2 (.t 13) (.t 15)), zO 19 (.ld (.t 18) 2 true), zO 4 (.alloc 0 66 [(1, 68, 3, 0)] [(.string ⟨#[]⟩), (.slice none 0 0)]), zM 3 17, zU (.st true 2 [(1, 68, 3, 0)] (.t 4) (.t 19))]) (.seq (.draw [] [zQ (zO 20 (.faddr (.t 4) 0)), zQ (zO 21 (.ld (.t 20) 1 false)), zQ (zO 22 (.call 89 [(.t 21)])), zQ (zO 23 (.call 81 [(.t 22), (.c (.int .i64 4))])), zQ (zM 24 0), zQ (zM 25 3), zQ (zO 26 (.lsl 2 (.t 24) none (some (.t 25)))), zQ (zO 27 (.faddr (.t 4) 0)), zQ (zO 28 (.ld (.t 27) 1 false)), zQ (zO 29 (.call 37 [(.t 26), (.t 28)])), zQ (zO 30 (.sc (.bin .lss 3) [(.t 29), (.c (.int .i64 0))])), zQ (zO 31 (.call 81 [(.t 30), (.c (.int .i64 6))])), zQ (zO 32 (.faddr (.t 4) 1)), zQ (zO 33 (.ld (.t 32) 1 false)), zQ (zO 34 (.call 90 [(.t 33)])), zQ (zO 35 (.isl 1 [(.t 23), (.t 31), (.t 34)])), zQ (zO 36 (.call 33 [(.t 35)])), zQ (zM 5 36)]) (.seq (.ops [zM 37 5, zO 38 (.sc (.bin .neq 34) [(.t 37), (.c (.int .i64 0))])]) (.cond (.t 38)
  (.seq (.ops [zM 39 5, zM 2 39]) .ret)
  .skip))))) (.ops [zO 40 (.sc (.bin .add 3) [(.t 15), (.c (.int .i64 1))]), zM 15 40]))))))) (.seq (.seq (.ops [zM 41 0, zO 42 (.len false (.t 41)), zO 43 (.mov (.c (.int .i64 0)))]) (.block 2 (.loop (.seq (.ops [zO 44 (.sc (.bin .lss 3) [(.t 43), (.t 42)])]) (.seq (.cond (.t 44)
  .skip
  (.exit 2)) (.seq (.block 3 (.seq (.ops [zO 45 (.iaddr 2 (.t 41) (.t 43)), zO 46 (.ld (.t 45) 2 true), zO 7 (.alloc 0 66 [(1, 68, 3, 0)] [(.string ⟨#[]⟩), (.slice none 0 0)]), zU (.st true 2 [(1, 68, 3, 0)] (.t 7) (.t 46))]) (.seq (.ops [zO 47 (.faddr (.t 7) 1), zO 48 (.ld (.t 47) 1 false), zO 49 (.len false (.t 48)), zO 50 (.mov (.c (.int .i64 0)))]) (.block 4 (.loop (.seq (.ops [zO 51 (.sc (.bin .lss 3) [(.t 50), (.t 49)])]) (.seq (.cond (.t 51)
  .skip
  (.exit 4)) (.seq (.block 5 (.seq (.ops [zO 52 (.iaddr 3 (.t 48) (.t 50)), zO 53 (.ld (.t 52) 3 true), zO 9 (.alloc 0 68 [] [(.string ⟨#[]⟩), (.int .i64 0), (.string ⟨#[]⟩)]), zU (.st true 3 [] (.t 9) (.t 53))]) (.seq (.ops [zO 54 (.faddr (.t 9) 1), zO 55 (.ld (.t 54) 1 false), zO 56 (.sc (.bin .eql 3) [(.t 55), (.c (.int .i64 3))]), zM 57 56, zG 58 57 true (.faddr (.t 9) 2), zG 59 57 true (.ld (.t 58) 1 false), zG 60 57 true (.sc (.bin .neq 9) [(.t 59), (.c (.string ⟨#[65, 78, 89]⟩))]), zO 61 (.pick (.t 57) (.t 60) (.c (.bool false))), zM 62 61, zN 63 62 true 0, zG 64 62 true (.faddr (.t 9) 2), zG 65 62 true (.ld (.t 64) 1 false), zG 66 62 true (.call 37 [(.t 63), (.t 65)]), zG 67 62 true (.sc (.bin .lss 3) [(.t 66), (.c (.int .i64 0))]), zO 68 (.pick (.t 62) (.t 67) (.c (.bool false)))]) (.cond (.t 68)
  (.seq (.ops [zO 2 (.mov (.c (.int .i64 5)))]) .ret)
  .skip)))) (.ops [zO 69 (.sc (.bin .add 3) [(.t 50), (.c (.int .i64 1))]), zM 50 69]))))))))) (.ops [zO 70 (.sc (.bin .add 3) [(.t 43), (.c (.int .i64 1))]), zM 43 70]))))))) (.seq (.ops [zO 2 (.mov (.c (.int .i64 0)))]) .ret)))))) := by kernel_rfl
def f16_k157 (x148 : Int) (c130k : Int → Option Int) (x163 : Bool) : Option Int := (bif x163 then some 5 else (c130k (wr .i64 (x148 + 1))))
def f16_k122 (x118 : Int) (c70k : Int → Option Int) : Option Int := (c70k (wr .i64 (x118 + 1)))
def f16_l130 (x125 : Form) (n : Nat) (a1 : (List Form)) (k122k : Option Int) : Nat → Int → Option Int
  | 0, _ => none
  | m130 + 1, x148 => (bif (decide (x148 < (len x125.fCols))) then ((gi x125.fCols x148).bind fun x155 => (bif (x155.fKind == 3) then (bif (!(sEqF x155.fClass (ByteArray.mk #[65, 78, 89]))) then ((f52 n a1 x155.fClass).bind fun r161 => (f16_k157 x148 (f16_l130 x125 n a1 (k122k) m130) (decide (r161 < 0)))) else (f16_k157 x148 (f16_l130 x125 n a1 (k122k) m130) false)) else (f16_k157 x148 (f16_l130 x125 n a1 (k122k) m130) false))) else (k122k))
def f16_k66 : Option Int := some 0
def f16_l70 (a1 : (List Form)) (n : Nat) (k66k : Option Int) : Nat → Int → Option Int
  | 0, _ => none
  | m70 + 1, x118 => (bif (decide (x118 < (len a1))) then ((gi a1 x118).bind fun x125 => (f16_l130 x125 n a1 (f16_k122 x118 (f16_l70 a1 n (k66k) m70)) n 0)) else (k66k))
def f16_k8 (n : Nat) (a1 : (List Form)) : Option Int := (f16_l70 a1 n (f16_k66) n 0)
def f16_l12 (a1 : (List Form)) (n : Nat) (k8k : Option Int) : Nat → Int → Option Int
  | 0, _ => none
  | m12 + 1, x39 => (bif (decide (x39 < (len a1))) then ((gi a1 x39).bind fun x46 => ((f51 n x46.fName).bind fun r49 => ((f50 n r49 4).bind fun r51 => ((sli a1 0 x39).bind fun l53 => ((f52 n l53 x46.fName).bind fun r55 => ((f50 n (decide (r55 < 0)) 6).bind fun r57 => ((f53 n x46.fCols).bind fun r59 => ((f49 n [r51, r57, r59]).bind fun r61 => (bif (r61 != 0) then some r61 else (f16_l12 a1 n (k8k) m12 (wr .i64 (x39 + 1)))))))))))) else (k8k))
def f16 (n : Nat) (a1 : (List Form)) : Option Int := (bif (decide ((len a1) > 24)) then some 3 else (f16_l12 a1 n (f16_k8 n a1) n 0))
def f16_r (r : Int) : AV := (vI r)
theorem p_f16 {n : Nat} {a1 : (List Form)} {r : Int} (h : f16 n a1 = some r) : PureSpec Tryz.prog 44 [(vL Form.c a1)] (f16_r r) := by
 rw [f16.eq_1] at h
 refine pure_of hmix ic44 ?_
 refine go_to (mkd (.val undef) 71 0 [(0, (vL Form.c a1))]) ?_
 refine s_so fun N2 k2 w2 => ?_
 refine o_r1 [(2, (vI 0))] ?_
 refine o_end (k2 _ ?_)
 refine s_seq fun N3 k3 w3 => ?_
 refine s_so fun N4 k4 w4 => ?_
 refine o_r1 [(10, (vL Form.c a1))] ?_
 refine o_o (one_len (f := Form.c) (l := a1)) ?_
 refine o_r1 [(12, (vB (decide ((len a1) > 24))))] ?_
 refine o_end (k4 _ ?_)
 refine i_c [12] h (fun h => ?_) (fun h => ?_)
 · refine s_so fun N7 k7 w7 => ?_
   refine o_r1 [(2, (vI 3))] ?_
   refine o_end (k7 _ ?_)
   exact c_ret (rets [] [(vI 3)] [(vI 3)] h)
 · refine c_skip (k3 _ ?_)
   refine J0 (r := r) ⟨(mkd .any 71 0 [(0, (vL Form.c a1))]), []⟩ (f16_k8 n a1) ?_ ?_
   · intro h
     rw [f16_k8.eq_1] at h
     refine J0 (r := r) ⟨(mkd .any 71 0 []), []⟩ (f16_k66) ?_ ?_
     · intro h
       rw [f16_k66.eq_1] at h
       refine s_so fun N166 k166 w166 => ?_
       refine o_r1 [(2, (vI 0))] ?_
       refine o_end (k166 _ ?_)
       exact c_ret (rets [] [(vI 0)] [(vI 0)] h)
     · intro N66 w66
       refine s_so fun N67 k67 w67 => ?_
       refine o_r1 [(41, (vL Form.c a1))] ?_
       refine o_o (one_len (f := Form.c) (l := a1)) ?_
       refine o_r1 [(43, (vI 0))] ?_
       refine o_end (k67 _ ?_)
       refine c_block fun E69 hE69 hO69 => ?_
       refine W1 (fun (x118 : Int) => ⟨(mkd .any 71 0 [(0, (vL Form.c a1)), (41, (vL Form.c a1)), (42, (vI (len a1))), (43, (vI x118))]), []⟩) (f16_l70 a1 n (f16_k66)) h (wkm [0, 41, 42, 43] wh_nil) (by intros; rw [f16_l70.eq_1]) ?_
       intro m70 x118 h N70 w70
       rw [f16_l70.eq_2] at h
       refine s_so fun N119 k119 w119 => ?_
       refine o_r1 [(44, (vB (decide (x118 < (len a1)))))] ?_
       refine o_end (k119 _ ?_)
       refine s_seq fun N120 k120 w120 => ?_
       refine i_c [44] h (fun h => ?_) (fun h => ?_)
       · refine c_skip (k120 _ ?_)
         refine J0 (r := r) ⟨(mkd .any 71 0 [(0, (vL Form.c a1)), (41, (vL Form.c a1)), (42, (vI (len a1))), (43, (vI x118))]), []⟩ (f16_k122 x118 (f16_l70 a1 n (f16_k66) m70)) ?_ ?_
         · intro h
           rw [f16_k122.eq_1] at h
           refine c_ops ?_
           refine o_r2 [(43, (vI (wr .i64 (x118 + 1)))), (70, (vI (wr .i64 (x118 + 1))))] ?_
           exact o_end (w70 _ _ (wkm [0, 41, 42, 43] wh_nil) h)
         · intro N122 w122
           refine c_block fun E123 hE123 hO123 => ?_
           refine s_so fun N124 k124 w124 => ?_
           refine bnd h fun x125 g126 h => ?_
           refine o_o (one_ia (f := Form.c) (ki := .i64) g126) ?_
           refine o_h3 [(7, (.ptr 1 0)), (46, (.agg [(vS x125.fName), (vL Col.c x125.fCols)]))] [(some (.row 68 3 (List.map Col.c []))), (some (.box 66 [(vS x125.fName), (vL Col.c x125.fCols)]))] ?_
           refine o_end (k124 _ ?_)
           refine s_so fun N127 k127 w127 => ?_
           refine o_r2 [(47, (.ptr 1 1)), (48, (vL Col.c x125.fCols))] ?_
           refine o_o (one_len (f := Col.c) (l := x125.fCols)) ?_
           refine o_r1 [(50, (vI 0))] ?_
           refine o_end (k127 _ ?_)
           refine c_block fun E129 hE129 hO129 => ?_
           refine W1 (fun (x148 : Int) => ⟨(mkd .any 71 0 [(0, (vL Form.c a1)), (41, (vL Form.c a1)), (42, (vI (len a1))), (43, (vI x118)), (48, (vL Col.c x125.fCols)), (49, (vI (len x125.fCols))), (50, (vI x148))]), []⟩) (f16_l130 x125 n a1 (f16_k122 x118 (f16_l70 a1 n (f16_k66) m70))) h (wkm [0, 41, 42, 43, 48, 49, 50] wh_nil) (by intros; rw [f16_l130.eq_1]) ?_
           intro m130 x148 h N130 w130
           rw [f16_l130.eq_2] at h
           refine s_so fun N149 k149 w149 => ?_
           refine o_r1 [(51, (vB (decide (x148 < (len x125.fCols)))))] ?_
           refine o_end (k149 _ ?_)
           refine s_seq fun N150 k150 w150 => ?_
           refine i_c [51] h (fun h => ?_) (fun h => ?_)
           · refine c_skip (k150 _ ?_)
             refine s_seq fun N152 k152 w152 => ?_
             refine c_block fun E153 hE153 hO153 => ?_
             refine s_so fun N154 k154 w154 => ?_
             refine bnd h fun x155 g156 h => ?_
             refine o_o (one_ia (f := Col.c) (ki := .i64) g156) ?_
             refine o_h3 [(9, (.ptr 0 0)), (53, (.agg [(vS x155.fName), (vI x155.fKind), (vS x155.fClass)]))] [(some (.box 68 [(vS x155.fName), (vI x155.fKind), (vS x155.fClass)]))] ?_
             refine o_end (k154 _ ?_)
             refine J1 (r := r) (fun (x163 : Bool) => ⟨(mkd .any 71 0 [(0, (vL Form.c a1)), (41, (vL Form.c a1)), (42, (vI (len a1))), (43, (vI x118)), (48, (vL Col.c x125.fCols)), (49, (vI (len x125.fCols))), (50, (vI x148)), (68, (vB x163))]), []⟩) (f16_k157 x148 (f16_l130 x125 n a1 (f16_k122 x118 (f16_l70 a1 n (f16_k66) m70)) m130)) ?_ ?_
             · intro x163 h
               rw [f16_k157.eq_1] at h
               refine i_c [68] h (fun h => ?_) (fun h => ?_)
               · refine s_so fun N165 k165 w165 => ?_
                 refine o_r1 [(2, (vI 5))] ?_
                 refine o_end (k165 _ ?_)
                 exact c_ret (rets [] [(vI 5)] [(vI 5)] h)
               · refine c_skip (k152 _ ?_)
                 refine c_ops ?_
                 refine o_r2 [(50, (vI (wr .i64 (x148 + 1)))), (69, (vI (wr .i64 (x148 + 1))))] ?_
                 exact o_end (w130 _ _ (wkm [0, 41, 42, 43, 48, 49, 50] wh_nil) h)
             · intro N157 w157
               refine c_ops ?_
               refine o_r4 [(54, (.ptr 0 1)), (55, (vI x155.fKind)), (56, (vB (x155.fKind == 3))), (57, (vB (x155.fKind == 3)))] ?_
               refine i_o [56, 57] h (fun h => ?_) (fun h => ?_)
               · refine o_r2 [(58, (.ptr 0 2)), (59, (vS x155.fClass))] ?_
                 refine o_g ?_
                 refine o_o (one_sc (vs := [.string x155.fClass, .string (ByteArray.mk #[65, 78, 89])]) (str_neq x155.fClass (ByteArray.mk #[65, 78, 89]))) ?_
                 refine o_r2 [(61, (vB (!(sEqF x155.fClass (ByteArray.mk #[65, 78, 89]))))), (62, (vB (!(sEqF x155.fClass (ByteArray.mk #[65, 78, 89])))))] ?_
                 refine i_o [60, 61, 62] h (fun h => ?_) (fun h => ?_)
                 · refine o_r3 [(63, (vL Form.c a1)), (64, (.ptr 0 2)), (65, (vS x155.fClass))] ?_
                   refine bnd h fun r161 g162 h => ?_
                   refine o_g ?_
                   refine o_o (one_call (p_f52 g162)) ?_
                   refine o_r2 [(67, (vB (decide (r161 < 0)))), (68, (vB (decide (r161 < 0))))] ?_
                   refine s_tm (mkd .any 71 0 [(0, (vL Form.c a1)), (9, (.ptr 0 0)), (41, (vL Form.c a1)), (42, (vI (len a1))), (43, (vI x118)), (48, (vL Col.c x125.fCols)), (49, (vI (len x125.fCols))), (50, (vI x148)), (51, (vB true)), (52, (.iptr [(vS x155.fName), (vI x155.fKind), (vS x155.fClass)])), (53, (.agg [(vS x155.fName), (vI x155.fKind), (vS x155.fClass)])), (54, (.ptr 0 1)), (55, (vI x155.fKind)), (56, (vB true)), (57, (vB true)), (58, (.ptr 0 2)), (59, (vS x155.fClass)), (60, (vB true)), (61, (vB true)), (62, (vB true)), (63, (vL Form.c a1)), (64, (.ptr 0 2)), (65, (vS x155.fClass)), (66, (vI r161)), (67, (vB (decide (r161 < 0)))), (68, (vB (decide (r161 < 0))))]) ?_
                   exact o_end (w157 _ _ (wkm [0, 41, 42, 43, 48, 49, 50, 68] wh_nil) h)
                 · refine o_r6 [(63, (.val undef)), (64, (.val undef)), (65, (.val undef)), (66, (.val undef)), (67, (.val undef)), (68, (vB false))] ?_
                   exact o_end (w157 _ _ (wkm [0, 41, 42, 43, 48, 49, 50, 68] wh_nil) h)
               · refine o_r11 [(58, (.val undef)), (59, (.val undef)), (60, (.val undef)), (61, (vB false)), (62, (vB false)), (63, (.val undef)), (64, (.val undef)), (65, (.val undef)), (66, (.val undef)), (67, (.val undef)), (68, (vB false))] ?_
                 exact o_end (w157 _ _ (wkm [0, 41, 42, 43, 48, 49, 50, 68] wh_nil) h)
           · refine c_exit (hE129 _ ?_)
             exact w122 _ (wkm [0, 41, 42, 43] wh_nil) h
       · refine c_exit (hE69 _ ?_)
         exact w66 _ (wkm [] wh_nil) h
   · intro N8 w8
     refine s_so fun N9 k9 w9 => ?_
     refine o_r1 [(13, (vL Form.c a1))] ?_
     refine o_o (one_len (f := Form.c) (l := a1)) ?_
     refine o_r1 [(15, (vI 0))] ?_
     refine o_end (k9 _ ?_)
     refine c_block fun E11 hE11 hO11 => ?_
     refine W1 (fun (x39 : Int) => ⟨(mkd .any 71 0 [(0, (vL Form.c a1)), (13, (vL Form.c a1)), (14, (vI (len a1))), (15, (vI x39))]), []⟩) (f16_l12 a1 n (f16_k8 n a1)) h (wkm [0, 13, 14, 15] wh_nil) (by intros; rw [f16_l12.eq_1]) ?_
     intro m12 x39 h N12 w12
     rw [f16_l12.eq_2] at h
     refine s_so fun N40 k40 w40 => ?_
     refine o_r1 [(16, (vB (decide (x39 < (len a1)))))] ?_
     refine o_end (k40 _ ?_)
     refine s_seq fun N41 k41 w41 => ?_
     refine i_c [16] h (fun h => ?_) (fun h => ?_)
     · refine c_skip (k41 _ ?_)
       refine s_seq fun N43 k43 w43 => ?_
       refine c_block fun E44 hE44 hO44 => ?_
       refine s_so fun N45 k45 w45 => ?_
       refine o_r1 [(17, (vI x39))] ?_
       refine bnd h fun x46 g47 h => ?_
       refine o_o (one_ia (f := Form.c) (ki := .i64) g47) ?_
       refine o_h4 [(3, (vI x39)), (4, (.ptr 1 0)), (19, (.agg [(vS x46.fName), (vL Col.c x46.fCols)]))] [(some (.row 68 3 (List.map Col.c []))), (some (.box 66 [(vS x46.fName), (vL Col.c x46.fCols)]))] ?_
       refine o_end (k45 _ ?_)
       refine s_seq fun N48 k48 w48 => ?_
       refine c_draw0 ?_
       refine d_r2 [(20, (.ptr 1 0)), (21, (vS x46.fName))] ?_
       refine bnd h fun r49 g50 h => ?_
       refine d_o (one_call (p_f51 g50)) ?_
       refine bnd h fun r51 g52 h => ?_
       refine d_o (one_call (p_f50 g52)) ?_
       refine d_r2 [(24, (vL Form.c a1)), (25, (vI x39))] ?_
       refine bnd h fun l53 g54 h => ?_
       refine d_o (one_lsl (f := Form.c) g54 (fun _ => rfl)) ?_
       refine d_r2 [(27, (.ptr 1 0)), (28, (vS x46.fName))] ?_
       refine bnd h fun r55 g56 h => ?_
       refine d_o (one_call (p_f52 g56)) ?_
       refine d_r1 [(30, (vB (decide (r55 < 0))))] ?_
       refine t_tm (mkd .any 71 0 [(0, (vL Form.c a1)), (3, (vI x39)), (4, (.ptr 1 0)), (13, (vL Form.c a1)), (14, (vI (len a1))), (15, (vI x39)), (16, (vB true)), (17, (vI x39)), (18, (.iptr [(vS x46.fName), (vL Col.c x46.fCols)])), (19, (.agg [(vS x46.fName), (vL Col.c x46.fCols)])), (20, (.ptr 1 0)), (21, (vS x46.fName)), (22, (vB r49)), (23, (vI r51)), (24, (vL Form.c a1)), (25, (vI x39)), (26, (vL Form.c l53)), (27, (.ptr 1 0)), (28, (vS x46.fName)), (29, (vI r55)), (30, (vB (decide (r55 < 0))))]) ?_
       refine bnd h fun r57 g58 h => ?_
       refine d_o (one_call (p_f50 g58)) ?_
       refine d_r2 [(32, (.ptr 1 1)), (33, (vL Col.c x46.fCols))] ?_
       refine bnd h fun r59 g60 h => ?_
       refine d_o (one_call (p_f53 g60)) ?_
       refine d_r1 [(35, (vL cI [r51, r57, r59]))] ?_
       refine bnd h fun r61 g62 h => ?_
       refine d_o (one_call (p_f49 g62)) ?_
       refine d_r1 [(5, (vI r61))] ?_
       refine d_end (w48 _ ⟨(mkd .any 71 0 [(0, (vL Form.c a1)), (5, (vI r61)), (13, (vL Form.c a1)), (14, (vI (len a1))), (15, (vI x39))]), []⟩ (wkm [0, 5, 13, 14, 15] wh_nil) ?_)
       refine s_so fun N63 k63 w63 => ?_
       refine o_r2 [(37, (vI r61)), (38, (vB (r61 != 0)))] ?_
       refine o_end (k63 _ ?_)
       refine i_c [38] h (fun h => ?_) (fun h => ?_)
       · refine s_so fun N65 k65 w65 => ?_
         refine o_r2 [(2, (vI r61)), (39, (vI r61))] ?_
         refine o_end (k65 _ ?_)
         exact c_ret (rets [] [(vI r61)] [(vI r61)] h)
       · refine c_skip (k43 _ ?_)
         refine c_ops ?_
         refine o_r2 [(15, (vI (wr .i64 (x39 + 1)))), (40, (vI (wr .i64 (x39 + 1))))] ?_
         exact o_end (w12 _ _ (wkm [0, 13, 14, 15] wh_nil) h)
     · refine c_exit (hE11 _ ?_)
       exact w8 _ (wkm [0] wh_nil) h
theorem ic82 : fnIC Tryz.prog H0 82 = some ([.tmp 2], 5, (.seq (.ops [zO 1 (.box 0 71 [(2, 82, 3, 0)] (.t 0)), zO 2 (.mov (.c (.string ⟨#[]⟩)))]) (.seq (.ops [zO 3 (.faddr (.t 1) 0), zO 4 (.ld (.t 3) 1 false), zM 2 4]) .ret))) := by kernel_rfl
def f115 (n : Nat) (a1 : Rule) : Option ByteArray := some a1.fClass
def f115_r (r : ByteArray) : AV := (vS r)
theorem p_f115 {n : Nat} {a1 : Rule} {r : ByteArray} (h : f115 n a1 = some r) : PureSpec Tryz.prog 82 [(.agg [(vS a1.fClass), (vS a1.fTo), (vL Give.c a1.fGives)])] (f115_r r) := by
 rw [f115.eq_1] at h
 refine pure_of hmix ic82 ?_
 refine go_to (mkd (.val undef) 5 0 [(0, (.agg [(vS a1.fClass), (vS a1.fTo), (vL Give.c a1.fGives)]))]) ?_
 refine s_so fun N2 k2 w2 => ?_
 refine o_h2 [(1, (.ptr 0 0)), (2, (vS (ByteArray.mk #[])))] [(some (.box 71 [(vS a1.fClass), (vS a1.fTo), (vL Give.c a1.fGives)]))] ?_
 refine o_end (k2 _ ?_)
 refine s_so fun N3 k3 w3 => ?_
 refine o_r3 [(2, (vS a1.fClass)), (3, (.ptr 0 0)), (4, (vS a1.fClass))] ?_
 refine o_end (k3 _ ?_)
 exact c_ret (rets [] [(vS a1.fClass)] [(vS a1.fClass)] h)
theorem ic98 : fnIC Tryz.prog H0 98 = some ([.tmp 4], 10, (.seq (.ops [zO 3 (.box 0 71 [(2, 82, 3, 0)] (.t 0)), zO 4 (.mov (.c (.bool false)))]) (.seq (.draw [] [zQ (zO 5 (.ld (.t 1) 1 false)), zQ (zO 6 (.ld (.t 3) 3 true)), zQ (zO 7 (.callv (.t 5) [(.t 6)])), zQ (zO 8 (.ld (.t 2) 1 false)), zQ (zO 9 (.sc (.bin .eql 9) [(.t 7), (.t 8)])), zQ (zM 4 9)]) .ret))) := by kernel_rfl
def f118 (n : Nat) (a1 : Rule) (a2 : ByteArray) : Option Bool := ((f115 n a1).bind fun r5 => some (sEqF r5 a2))
def f118_r (r : Bool) : AV := (vB r)
theorem p_f118 {n : Nat} {a1 : Rule} {a2 : ByteArray} {r : Bool} (h : f118 n a1 a2 = some r) : PureSpec Tryz.prog 98 [(.agg [(vS a1.fClass), (vS a1.fTo), (vL Give.c a1.fGives)]), (.iptr [(.fn 82 [])]), (.iptr [(vS a2)])] (f118_r r) := by
 rw [f118.eq_1] at h
 refine pure_of hmix ic98 ?_
 refine go_to (mkd (.val undef) 10 0 [(0, (.agg [(vS a1.fClass), (vS a1.fTo), (vL Give.c a1.fGives)])), (1, (.iptr [(.fn 82 [])])), (2, (.iptr [(vS a2)]))]) ?_
 refine s_so fun N3 k3 w3 => ?_
 refine o_h2 [(3, (.ptr 0 0)), (4, (vB false))] [(some (.box 71 [(vS a1.fClass), (vS a1.fTo), (vL Give.c a1.fGives)]))] ?_
 refine o_end (k3 _ ?_)
 refine s_seq fun N4 k4 w4 => ?_
 refine c_draw0 ?_
 refine d_r2 [(5, (.fn 82 [])), (6, (.agg [(vS a1.fClass), (vS a1.fTo), (vL Give.c a1.fGives)]))] ?_
 refine bnd h fun r5 g6 h => ?_
 refine d_o (one_callv (caps := []) (p_f115 g6)) ?_
 refine d_r1 [(8, (vS a2))] ?_
 refine d_o (one_sc (vs := [.string r5, .string a2]) (str_eql r5 a2)) ?_
 refine d_r1 [(4, (vB (sEqF r5 a2)))] ?_
 refine d_end (k4 _ ?_)
 exact c_ret (rets [] [(vB (sEqF r5 a2))] [(vB (sEqF r5 a2))] h)
theorem ic97 : fnIC Tryz.prog H0 97 = some ([.tmp 4], 19, (.seq (.ops [zO 4 (.mov (.c (.int .i64 0)))]) (.seq (.seq (.ops [zM 6 0, zO 7 (.len false (.t 6)), zO 8 (.mov (.c (.int .i64 0)))]) (.block 0 (.loop (.seq (.ops [zO 9 (.sc (.bin .lss 3) [(.t 8), (.t 7)])]) (.seq (.cond (.t 9)
  .skip
  (.exit 0)) (.seq (.block 1 (.seq (.ops [zM 10 8, zM 5 10]) (.seq (.ops [zM 11 1, zM 12 0, zM 13 5, zO 14 (.iaddr 3 (.t 12) (.t 13)), zO 15 (.ld (.t 14) 3 true), zO 16 (.callv (.t 11) [(.t 15)])]) (.cond (.t 16)
  (.seq (.ops [zM 17 5, zM 4 17]) .ret)
  .skip)))) (.ops [zO 18 (.sc (.bin .add 3) [(.t 8), (.c (.int .i64 1))]), zM 8 18]))))))) (.seq (.ops [zO 4 (.mov (.c (.int .i64 (-1))))]) .ret)))) := by kernel_rfl
def f117_k4 : Option Int := some (-1)
def f117_l8 (a1 : (List Rule)) (n : Nat) (a2 : ByteArray) (k4k : Option Int) : Nat → Int → Option Int
  | 0, _ => none
  | m8 + 1, x22 => (bif (decide (x22 < (len a1))) then ((gi a1 x22).bind fun x30 => ((f118 n x30 a2).bind fun r32 => (bif r32 then some x22 else (f117_l8 a1 n a2 (k4k) m8 (wr .i64 (x22 + 1)))))) else (k4k))
def f117 (n : Nat) (a1 : (List Rule)) (a2 : ByteArray) : Option Int := (f117_l8 a1 n a2 (f117_k4) n 0)
def f117_r (r : Int) : AV := (vI r)
theorem p_f117 {n : Nat} {a1 : (List Rule)} {a2 : ByteArray} {r : Int} (h : f117 n a1 a2 = some r) : PureSpec Tryz.prog 97 [(vL Rule.c a1), (.fn 98 [(.iptr [(.fn 82 [])]), (.iptr [(vS a2)])])] (f117_r r) := by
 rw [f117.eq_1] at h
 refine pure_of hmix ic97 ?_
 refine go_to (mkd (.val undef) 19 0 [(0, (vL Rule.c a1)), (1, (.fn 98 [(.iptr [(.fn 82 [])]), (.iptr [(vS a2)])]))]) ?_
 refine s_so fun N3 k3 w3 => ?_
 refine o_r1 [(4, (vI 0))] ?_
 refine o_end (k3 _ ?_)
 refine J0 (r := r) ⟨(mkd .any 19 0 []), []⟩ (f117_k4) ?_ ?_
 · intro h
   rw [f117_k4.eq_1] at h
   refine s_so fun N36 k36 w36 => ?_
   refine o_r1 [(4, (vI (-1)))] ?_
   refine o_end (k36 _ ?_)
   exact c_ret (rets [] [(vI (-1))] [(vI (-1))] h)
 · intro N4 w4
   refine s_so fun N5 k5 w5 => ?_
   refine o_r1 [(6, (vL Rule.c a1))] ?_
   refine o_o (one_len (f := Rule.c) (l := a1)) ?_
   refine o_r1 [(8, (vI 0))] ?_
   refine o_end (k5 _ ?_)
   refine c_block fun E7 hE7 hO7 => ?_
   refine W1 (fun (x22 : Int) => ⟨(mkd .any 19 0 [(0, (vL Rule.c a1)), (1, (.fn 98 [(.iptr [(.fn 82 [])]), (.iptr [(vS a2)])])), (7, (vI (len a1))), (8, (vI x22))]), []⟩) (f117_l8 a1 n a2 (f117_k4)) h (wkm [0, 1, 7, 8] wh_nil) (by intros; rw [f117_l8.eq_1]) ?_
   intro m8 x22 h N8 w8
   rw [f117_l8.eq_2] at h
   refine s_so fun N23 k23 w23 => ?_
   refine o_r1 [(9, (vB (decide (x22 < (len a1)))))] ?_
   refine o_end (k23 _ ?_)
   refine s_seq fun N24 k24 w24 => ?_
   refine i_c [9] h (fun h => ?_) (fun h => ?_)
   · refine c_skip (k24 _ ?_)
     refine s_seq fun N26 k26 w26 => ?_
     refine c_block fun E27 hE27 hO27 => ?_
     refine s_so fun N28 k28 w28 => ?_
     refine o_r2 [(5, (vI x22)), (10, (vI x22))] ?_
     refine o_end (k28 _ ?_)
     refine s_so fun N29 k29 w29 => ?_
     refine o_r3 [(11, (.fn 98 [(.iptr [(.fn 82 [])]), (.iptr [(vS a2)])])), (12, (vL Rule.c a1)), (13, (vI x22))] ?_
     refine bnd h fun x30 g31 h => ?_
     refine o_o (one_ia (f := Rule.c) (ki := .i64) g31) ?_
     refine o_r1 [(15, (.agg [(vS x30.fClass), (vS x30.fTo), (vL Give.c x30.fGives)]))] ?_
     refine bnd h fun r32 g33 h => ?_
     refine o_o (one_callv (caps := [(.iptr [(.fn 82 [])]), (.iptr [(vS a2)])]) (p_f118 g33)) ?_
     refine o_end (k29 _ ?_)
     refine i_c [16] h (fun h => ?_) (fun h => ?_)
     · refine s_so fun N35 k35 w35 => ?_
       refine o_r2 [(4, (vI x22)), (17, (vI x22))] ?_
       refine o_end (k35 _ ?_)
       exact c_ret (rets [] [(vI x22)] [(vI x22)] h)
     · refine c_skip (k26 _ ?_)
       refine c_ops ?_
       refine o_r2 [(8, (vI (wr .i64 (x22 + 1)))), (18, (vI (wr .i64 (x22 + 1))))] ?_
       exact o_end (w8 _ _ (wkm [0, 1, 7, 8] wh_nil) h)
   · refine c_exit (hE7 _ ?_)
     exact w4 _ (wkm [] wh_nil) h
theorem ic56 : fnIC Tryz.prog H0 56 = some ([.tmp 6], 10, (.seq (.ops [zO 4 (.box 0 9 [] (.t 1)), zO 5 (.box 0 111 [] (.t 2)), zO 6 (.mov (.c (.int .i64 0)))]) (.seq (.ops [zM 7 0, zO 8 (.mkf 98 [(.t 5), (.t 4)]), zO 9 (.call 97 [(.t 7), (.t 8)]), zM 6 9]) .ret))) := by kernel_rfl
def f81 (n : Nat) (a1 : (List Rule)) (a2 : ByteArray) : Option Int := ((f117 n a1 a2).bind fun r5 => some r5)
def f81_r (r : Int) : AV := (vI r)
theorem p_f81 {n : Nat} {a1 : (List Rule)} {a2 : ByteArray} {r : Int} (h : f81 n a1 a2 = some r) : PureSpec Tryz.prog 56 [(vL Rule.c a1), (vS a2), (.fn 82 [])] (f81_r r) := by
 rw [f81.eq_1] at h
 refine pure_of hmix ic56 ?_
 refine go_to (mkd (.val undef) 10 0 [(0, (vL Rule.c a1)), (1, (vS a2)), (2, (.fn 82 []))]) ?_
 refine s_so fun N3 k3 w3 => ?_
 refine o_h3 [(4, (.ptr 0 0)), (5, (.ptr 1 0)), (6, (vI 0))] [(some (.box 9 [(vS a2)])), (some (.box 111 [(.fn 82 [])]))] ?_
 refine o_end (k3 _ ?_)
 refine s_so fun N4 k4 w4 => ?_
 refine o_r2 [(7, (vL Rule.c a1)), (8, (.fn 98 [(.ptr 1 0), (.ptr 0 0)]))] ?_
 refine bnd h fun r5 g6 h => ?_
 refine o_o (one_callT [1, 0] (p_f117 g6) (ns_v _)) ?_
 refine o_r1 [(6, (vI r5))] ?_
 refine o_end (k4 _ ?_)
 exact c_ret (rets [] [(vI r5)] [(vI r5)] h)
theorem ic36 : fnIC Tryz.prog H0 36 = some ([.cell 4 71, .tmp 5], 17, (.seq (.ops [zO 4 (.alloc 0 71 [(2, 82, 3, 0)] [(.string ⟨#[]⟩), (.string ⟨#[]⟩), (.slice none 0 0)]), zO 5 (.mov (.c (.bool false)))]) (.seq (.ops [zM 7 0, zM 8 1, zO 9 (.call 56 [(.t 7), (.t 8), (.f 82)]), zM 6 9]) (.seq (.seq (.ops [zM 10 6, zO 11 (.sc (.bin .lss 3) [(.t 10), (.c (.int .i64 0))])]) (.cond (.t 11)
  (.seq (.ops [zO 12 (.bld [(.string ⟨#[]⟩), (.string ⟨#[]⟩), (.slice none 0 0)] []), zU (.st true 3 [(2, 82, 3, 0)] (.t 4) (.t 12)), zO 5 (.mov (.c (.bool false)))]) .ret)
  .skip)) (.seq (.ops [zM 13 0, zM 14 6, zO 15 (.iaddr 3 (.t 13) (.t 14)), zO 16 (.ld (.t 15) 3 true), zU (.st true 3 [(2, 82, 3, 0)] (.t 4) (.t 16)), zO 5 (.mov (.c (.bool true)))]) .ret))))) := by kernel_rfl
def f78 (n : Nat) (a1 : (List Rule)) (a2 : ByteArray) : Option (Rule × Bool) := ((f81 n a1 a2).bind fun r5 => (bif (decide (r5 < 0)) then some ((Rule.mk (ByteArray.mk #[]) (ByteArray.mk #[]) []), false) else ((gi a1 r5).bind fun x12 => some (x12, true))))
def f78_r (r : (Rule × Bool)) : AV := (.tup [(.agg [(vS r.1.fClass), (vS r.1.fTo), (vL Give.c r.1.fGives)]), (vB r.2)])
theorem p_f78 {n : Nat} {a1 : (List Rule)} {a2 : ByteArray} {r : (Rule × Bool)} (h : f78 n a1 a2 = some r) : PureSpec Tryz.prog 36 [(vL Rule.c a1), (vS a2)] (f78_r r) := by
 rw [f78.eq_1] at h
 refine pure_of hmix ic36 ?_
 refine go_to (mkd (.val undef) 17 0 [(0, (vL Rule.c a1)), (1, (vS a2))]) ?_
 refine s_so fun N3 k3 w3 => ?_
 refine o_h2 [(4, (.ptr 1 0)), (5, (vB false))] [(some (.row 82 3 (List.map Give.c []))), (some (.box 71 [(vS (ByteArray.mk #[])), (vS (ByteArray.mk #[])), (.own 0 0)]))] ?_
 refine o_end (k3 _ ?_)
 refine s_so fun N4 k4 w4 => ?_
 refine o_r2 [(7, (vL Rule.c a1)), (8, (vS a2))] ?_
 refine bnd h fun r5 g6 h => ?_
 refine o_o (one_call (p_f81 g6)) ?_
 refine o_r1 [(6, (vI r5))] ?_
 refine o_end (k4 _ ?_)
 refine s_seq fun N7 k7 w7 => ?_
 refine s_so fun N8 k8 w8 => ?_
 refine o_r2 [(10, (vI r5)), (11, (vB (decide (r5 < 0))))] ?_
 refine o_end (k8 _ ?_)
 refine i_c [11] h (fun h => ?_) (fun h => ?_)
 · refine s_so fun N10 k10 w10 => ?_
   refine o_h3 [(12, (.agg [(vS (ByteArray.mk #[])), (vS (ByteArray.mk #[])), (.val (.slice none 0 0))]))] [(some (.row 82 3 (List.map Give.c []))), (some (.box 71 [(vS (ByteArray.mk #[])), (vS (ByteArray.mk #[])), (.own 2 0)])), (some (.row 82 3 (List.map Give.c [])))] ?_
   refine o_end (k10 _ ?_)
   exact c_ret (retsF [2] [(.agg [(vS (ByteArray.mk #[])), (vS (ByteArray.mk #[])), (.own 2 0)]), (vB false)] [(.agg [(vS (ByteArray.mk #[])), (vS (ByteArray.mk #[])), (vL Give.c [])]), (vB false)] ⟨(fz_agg ⟨fz_v, fz_v, (fz_own (g := Give.c) (l := []) (t := 82) (sz := 3) Give.p), trivial⟩), fz_v, trivial⟩ h)
 · refine c_skip (k7 _ ?_)
   refine s_so fun N11 k11 w11 => ?_
   refine o_r2 [(13, (vL Rule.c a1)), (14, (vI r5))] ?_
   refine bnd h fun x12 g13 h => ?_
   refine o_o (one_ia (f := Rule.c) (ki := .i64) g13) ?_
   refine o_h3 [(5, (vB true)), (16, (.agg [(vS x12.fClass), (vS x12.fTo), (vL Give.c x12.fGives)]))] [(some (.row 82 3 (List.map Give.c []))), (some (.box 71 [(vS x12.fClass), (vS x12.fTo), (vL Give.c x12.fGives)]))] ?_
   refine o_end (k11 _ ?_)
   exact c_ret (rets [] [(.agg [(vS x12.fClass), (vS x12.fTo), (vL Give.c x12.fGives)]), (vB true)] [(.agg [(vS x12.fClass), (vS x12.fTo), (vL Give.c x12.fGives)]), (vB true)] h)
theorem ic125 : fnIC Tryz.prog H0 125 = some ([.tmp 6], 24, (.seq (.ops [zO 6 (.mov (.c (.bool false)))]) (.seq (.seq (.ops [zM 9 2, zO 10 (.sc (.bin .eql 9) [(.t 9), (.c (.string ⟨#[65, 78, 89]⟩))])]) (.cond (.t 10)
  (.seq (.ops [zO 6 (.mov (.c (.bool true)))]) .ret)
  .skip)) (.seq (.ops [zM 12 0, zM 13 1, zO 14 (.call 36 [(.t 12), (.t 13)]), zM 11 14, zO 15 (.ext (.t 11) 0), zO 16 (.ext (.t 11) 1), zO 7 (.alloc 0 71 [(2, 82, 3, 0)] [(.string ⟨#[]⟩), (.string ⟨#[]⟩), (.slice none 0 0)]), zU (.st true 3 [(2, 82, 3, 0)] (.t 7) (.t 15)), zM 8 16]) (.seq (.ops [zM 17 8, zM 18 17, zG 19 18 true (.faddr (.t 7) 1), zG 20 18 true (.ld (.t 19) 1 false), zN 21 18 true 2, zG 22 18 true (.sc (.bin .eql 9) [(.t 20), (.t 21)]), zO 23 (.pick (.t 18) (.t 22) (.c (.bool false))), zM 6 23]) .ret))))) := by kernel_rfl
def f142_k13 (x16 : Bool) : Option Bool := some x16
def f142 (n : Nat) (a1 : (List Rule)) (a2 : ByteArray) (a3 : ByteArray) : Option Bool := (bif (sEqF a3 (ByteArray.mk #[65, 78, 89])) then some true else ((f78 n a1 a2).bind fun r11 => (bif r11.2 then (f142_k13 (sEqF r11.1.fTo a3)) else (f142_k13 false))))
def f142_r (r : Bool) : AV := (vB r)
theorem p_f142 {n : Nat} {a1 : (List Rule)} {a2 : ByteArray} {a3 : ByteArray} {r : Bool} (h : f142 n a1 a2 a3 = some r) : PureSpec Tryz.prog 125 [(vL Rule.c a1), (vS a2), (vS a3)] (f142_r r) := by
 rw [f142.eq_1] at h
 refine pure_of hmix ic125 ?_
 refine go_to (mkd (.val undef) 24 0 [(0, (vL Rule.c a1)), (1, (vS a2)), (2, (vS a3))]) ?_
 refine s_so fun N4 k4 w4 => ?_
 refine o_r1 [(6, (vB false))] ?_
 refine o_end (k4 _ ?_)
 refine s_seq fun N5 k5 w5 => ?_
 refine s_so fun N6 k6 w6 => ?_
 refine o_r1 [(9, (vS a3))] ?_
 refine o_o (one_sc (vs := [.string a3, .string (ByteArray.mk #[65, 78, 89])]) (str_eql a3 (ByteArray.mk #[65, 78, 89]))) ?_
 refine o_end (k6 _ ?_)
 refine i_c [10] h (fun h => ?_) (fun h => ?_)
 · refine s_so fun N9 k9 w9 => ?_
   refine o_r1 [(6, (vB true))] ?_
   refine o_end (k9 _ ?_)
   exact c_ret (rets [] [(vB true)] [(vB true)] h)
 · refine c_skip (k5 _ ?_)
   refine s_so fun N10 k10 w10 => ?_
   refine o_r2 [(12, (vL Rule.c a1)), (13, (vS a2))] ?_
   refine bnd h fun r11 g12 h => ?_
   refine o_o (one_call (p_f78 g12)) ?_
   refine o_h6 [(7, (.ptr 1 0)), (8, (vB r11.2)), (11, (.tup [(.agg [(vS r11.1.fClass), (vS r11.1.fTo), (vL Give.c r11.1.fGives)]), (vB r11.2)])), (15, (.agg [(vS r11.1.fClass), (vS r11.1.fTo), (vL Give.c r11.1.fGives)])), (16, (vB r11.2))] [(some (.row 82 3 (List.map Give.c []))), (some (.box 71 [(vS r11.1.fClass), (vS r11.1.fTo), (vL Give.c r11.1.fGives)]))] ?_
   refine o_end (k10 _ ?_)
   refine J1 (r := r) (fun (x16 : Bool) => ⟨(mkd .any 24 0 [(6, (vB x16))]), []⟩) (f142_k13) ?_ ?_
   · intro x16 h
     rw [f142_k13.eq_1] at h
     exact c_ret (rets [] [(vB x16)] [(vB x16)] h)
   · intro N13 w13
     refine c_ops ?_
     refine o_r2 [(17, (vB r11.2)), (18, (vB r11.2))] ?_
     refine i_o [8, 16, 17, 18] h (fun h => ?_) (fun h => ?_)
     · refine o_r3 [(19, (.ptr 1 1)), (20, (vS r11.1.fTo)), (21, (vS a3))] ?_
       refine o_g ?_
       refine o_o (one_sc (vs := [.string r11.1.fTo, .string a3]) (str_eql r11.1.fTo a3)) ?_
       refine o_r2 [(6, (vB (sEqF r11.1.fTo a3))), (23, (vB (sEqF r11.1.fTo a3)))] ?_
       refine s_tm (mkd (.val undef) 24 0 [(0, (vL Rule.c a1)), (1, (vS a2)), (2, (vS a3)), (6, (vB (sEqF r11.1.fTo a3))), (7, (.ptr 1 0)), (8, (vB true)), (9, (vS a3)), (10, (vB false)), (11, (.tup [(.agg [(vS r11.1.fClass), (vS r11.1.fTo), (vL Give.c r11.1.fGives)]), (vB r11.2)])), (12, (vL Rule.c a1)), (13, (vS a2)), (14, (.tup [(.agg [(vS r11.1.fClass), (vS r11.1.fTo), (vL Give.c r11.1.fGives)]), (vB r11.2)])), (15, (.agg [(vS r11.1.fClass), (vS r11.1.fTo), (vL Give.c r11.1.fGives)])), (16, (vB true)), (17, (vB true)), (18, (vB true)), (19, (.ptr 1 1)), (20, (vS r11.1.fTo)), (21, (vS a3)), (22, (vB (sEqF r11.1.fTo a3))), (23, (vB (sEqF r11.1.fTo a3)))]) ?_
       exact o_end (w13 _ _ (wkm [6] wh_nil) h)
     · refine o_r6 [(19, (.val undef)), (20, (.val undef)), (21, (.val undef)), (22, (.val undef)), (23, (vB false))] ?_
       exact o_end (w13 _ _ (wkm [6] wh_nil) h)
theorem ic94 : fnIC Tryz.prog H0 94 = some ([.tmp 8], 97, (.seq (.ops [zO 5 (.box 0 82 [] (.t 1)), zO 6 (.box 0 68 [] (.t 2)), zO 7 (.box 0 68 [] (.t 3)), zO 8 (.mov (.c (.bool false)))]) (.seq (.seq (.ops [zO 9 (.faddr (.t 5) 1), zO 10 (.ld (.t 9) 1 false)]) (.block 0 (.seq (.ops [zO 12 (.sc (.bin .eql 3) [(.t 10), (.c (.int .i64 1))]), zM 11 12]) (.cond (.t 11)
  (.seq (.ops [zO 13 (.faddr (.t 6) 1), zO 14 (.ld (.t 13) 1 false), zO 15 (.faddr (.t 7) 1), zO 16 (.ld (.t 15) 1 false), zO 17 (.sc (.bin .eql 3) [(.t 14), (.t 16)]), zM 18 17, zG 19 18 true (.faddr (.t 6) 1), zG 20 18 true (.ld (.t 19) 1 false), zG 21 18 true (.sc (.bin .neq 3) [(.t 20), (.c (.int .i64 3))]), zN 22 18 true 21, zN 23 22 false 0, zG 24 22 false (.faddr (.t 6) 2), zG 25 22 false (.ld (.t 24) 1 false), zG 26 22 false (.faddr (.t 7) 2), zG 27 22 false (.ld (.t 26) 1 false), zG 28 22 false (.call 125 [(.t 23), (.t 25), (.t 27)]), zG 29 18 true (.pick (.t 22) (.c (.bool true)) (.t 28)), zO 30 (.pick (.t 18) (.t 29) (.c (.bool false))), zM 8 30]) .ret)
  (.seq (.ops [zO 32 (.sc (.bin .eql 3) [(.t 10), (.c (.int .i64 2))]), zM 31 32]) (.cond (.t 31)
  (.seq (.ops [zO 33 (.faddr (.t 6) 1), zO 34 (.ld (.t 33) 1 false), zO 35 (.sc (.bin .eql 3) [(.t 34), (.c (.int .i64 2))]), zM 36 35, zG 37 36 true (.faddr (.t 7) 1), zG 38 36 true (.ld (.t 37) 1 false), zG 39 36 true (.sc (.bin .eql 3) [(.t 38), (.c (.int .i64 1))]), zO 40 (.pick (.t 36) (.t 39) (.c (.bool false))), zM 8 40]) .ret)
  (.seq (.ops [zO 42 (.sc (.bin .eql 3) [(.t 10), (.c (.int .i64 3))]), zM 41 42]) (.cond (.t 41)
  (.seq (.ops [zO 43 (.faddr (.t 6) 1), zO 44 (.ld (.t 43) 1 false), zO 45 (.sc (.bin .eql 3) [(.t 44), (.c (.int .i64 1))]), zM 46 45, zG 47 46 true (.faddr (.t 7) 1), zG 48 46 true (.ld (.t 47) 1 false), zG 49 46 true (.sc (.bin .eql 3) [(.t 48), (.c (.int .i64 2))]), zO 50 (.pick (.t 46) (.t 49) (.c (.bool false))), zM 8 50]) .ret)
  (.seq (.ops [zO 52 (.sc (.bin .eql 3) [(.t 10), (.c (.int .i64 4))]), zM 51 52]) (.cond (.t 51)
  (.seq (.ops [zO 53 (.faddr (.t 6) 1), zO 54 (.ld (.t 53) 1 false), zO 55 (.sc (.bin .eql 3) [(.t 54), (.c (.int .i64 1))]), zM 56 55, zG 57 56 true (.faddr (.t 7) 1), zG 58 56 true (.ld (.t 57) 1 false), zG 59 56 true (.sc (.bin .eql 3) [(.t 58), (.c (.int .i64 1))]), zO 60 (.pick (.t 56) (.t 59) (.c (.bool false))), zM 8 60]) .ret)
  (.seq (.ops [zO 62 (.sc (.bin .eql 3) [(.t 10), (.c (.int .i64 5))]), zM 61 62]) (.cond (.t 61)
  (.seq (.ops [zO 63 (.faddr (.t 6) 1), zO 64 (.ld (.t 63) 1 false), zO 65 (.sc (.bin .eql 3) [(.t 64), (.c (.int .i64 3))]), zM 66 65, zG 67 66 true (.faddr (.t 7) 1), zG 68 66 true (.ld (.t 67) 1 false), zG 69 66 true (.sc (.bin .eql 3) [(.t 68), (.c (.int .i64 3))]), zO 70 (.pick (.t 66) (.t 69) (.c (.bool false))), zM 71 70, zN 72 71 true 0, zG 73 71 true (.faddr (.t 6) 2), zG 74 71 true (.ld (.t 73) 1 false), zG 75 71 true (.faddr (.t 7) 2), zG 76 71 true (.ld (.t 75) 1 false), zG 77 71 true (.call 125 [(.t 72), (.t 74), (.t 76)]), zO 78 (.pick (.t 71) (.t 77) (.c (.bool false))), zM 8 78]) .ret)
  (.seq (.ops [zO 80 (.sc (.bin .eql 3) [(.t 10), (.c (.int .i64 6))]), zM 79 80]) (.cond (.t 79)
  (.seq (.ops [zO 81 (.faddr (.t 7) 1), zO 82 (.ld (.t 81) 1 false), zO 83 (.sc (.bin .eql 3) [(.t 82), (.c (.int .i64 1))]), zM 84 83, zG 85 84 false (.faddr (.t 7) 1), zG 86 84 false (.ld (.t 85) 1 false), zG 87 84 false (.sc (.bin .eql 3) [(.t 86), (.c (.int .i64 2))]), zN 88 84 false 87, zG 89 88 true (.faddr (.t 5) 2), zG 90 88 true (.ld (.t 89) 1 false), zG 91 88 true (.call 86 [(.t 90), (.c (.int .i64 0)), (.c (.int .i64 1))]), zG 92 84 false (.pick (.t 88) (.t 91) (.c (.bool false))), zO 93 (.pick (.t 84) (.c (.bool true)) (.t 92)), zM 8 93]) .ret)
  .skip)))))))))))))) (.seq (.ops [zO 94 (.faddr (.t 7) 1), zO 95 (.ld (.t 94) 1 false), zO 96 (.sc (.bin .eql 3) [(.t 95), (.c (.int .i64 3))]), zM 8 96]) .ret)))) := by kernel_rfl
def f141_k11 (x16 : Bool) : Option Bool := some x16
def f141_k19 (x21 : Bool) : Option Bool := some x21
def f141_k24 (x26 : Bool) : Option Bool := some x26
def f141_k29 (x31 : Bool) : Option Bool := some x31
def f141_k34 (x39 : Bool) : Option Bool := some x39
def f141_k42 (x47 : Bool) : Option Bool := some x47
def f141 (n : Nat) (a1 : (List Rule)) (a2 : Give) (a3 : Col) (a4 : Col) : Option Bool := (bif (a2.fHow == 1) then (bif (a3.fKind == a4.fKind) then (bif (a3.fKind != 3) then (f141_k11 true) else ((f142 n a1 a3.fClass a4.fClass).bind fun r14 => (f141_k11 r14))) else (f141_k11 false)) else (bif (a2.fHow == 2) then (bif (a3.fKind == 2) then (f141_k19 (a4.fKind == 1)) else (f141_k19 false)) else (bif (a2.fHow == 3) then (bif (a3.fKind == 1) then (f141_k24 (a4.fKind == 2)) else (f141_k24 false)) else (bif (a2.fHow == 4) then (bif (a3.fKind == 1) then (f141_k29 (a4.fKind == 1)) else (f141_k29 false)) else (bif (a2.fHow == 5) then (bif (a3.fKind == 3) then (bif (a4.fKind == 3) then ((f142 n a1 a3.fClass a4.fClass).bind fun r37 => (f141_k34 r37)) else (f141_k34 false)) else (f141_k34 false)) else (bif (a2.fHow == 6) then (bif (a4.fKind == 1) then (f141_k42 true) else (bif (a4.fKind == 2) then ((f86 n a2.fN 0 1).bind fun r45 => (f141_k42 r45)) else (f141_k42 false))) else some (a4.fKind == 3)))))))
def f141_r (r : Bool) : AV := (vB r)
theorem p_f141 {n : Nat} {a1 : (List Rule)} {a2 : Give} {a3 : Col} {a4 : Col} {r : Bool} (h : f141 n a1 a2 a3 a4 = some r) : PureSpec Tryz.prog 94 [(vL Rule.c a1), (.agg [(vS a2.fFrom), (vI a2.fHow), (vI a2.fN)]), (.agg [(vS a3.fName), (vI a3.fKind), (vS a3.fClass)]), (.agg [(vS a4.fName), (vI a4.fKind), (vS a4.fClass)])] (f141_r r) := by
 rw [f141.eq_1] at h
 refine pure_of hmix ic94 ?_
 refine go_to (mkd (.val undef) 97 0 [(0, (vL Rule.c a1)), (1, (.agg [(vS a2.fFrom), (vI a2.fHow), (vI a2.fN)])), (2, (.agg [(vS a3.fName), (vI a3.fKind), (vS a3.fClass)])), (3, (.agg [(vS a4.fName), (vI a4.fKind), (vS a4.fClass)]))]) ?_
 refine s_so fun N5 k5 w5 => ?_
 refine o_h4 [(5, (.ptr 0 0)), (6, (.ptr 1 0)), (7, (.ptr 2 0)), (8, (vB false))] [(some (.box 82 [(vS a2.fFrom), (vI a2.fHow), (vI a2.fN)])), (some (.box 68 [(vS a3.fName), (vI a3.fKind), (vS a3.fClass)])), (some (.box 68 [(vS a4.fName), (vI a4.fKind), (vS a4.fClass)]))] ?_
 refine o_end (k5 _ ?_)
 refine s_seq fun N6 k6 w6 => ?_
 refine s_so fun N7 k7 w7 => ?_
 refine o_r2 [(9, (.ptr 0 1)), (10, (vI a2.fHow))] ?_
 refine o_end (k7 _ ?_)
 refine c_block fun E8 hE8 hO8 => ?_
 refine s_so fun N9 k9 w9 => ?_
 refine o_r2 [(11, (vB (a2.fHow == 1))), (12, (vB (a2.fHow == 1)))] ?_
 refine o_end (k9 _ ?_)
 refine i_c [11, 12] h (fun h => ?_) (fun h => ?_)
 · refine J1 (r := r) (fun (x16 : Bool) => ⟨(mkd .any 97 0 [(8, (vB x16))]), []⟩) (f141_k11) ?_ ?_
   · intro x16 h
     rw [f141_k11.eq_1] at h
     exact c_ret (rets [] [(vB x16)] [(vB x16)] h)
   · intro N11 w11
     refine c_ops ?_
     refine o_r6 [(13, (.ptr 1 1)), (14, (vI a3.fKind)), (15, (.ptr 2 1)), (16, (vI a4.fKind)), (17, (vB (a3.fKind == a4.fKind))), (18, (vB (a3.fKind == a4.fKind)))] ?_
     refine i_o [17, 18] h (fun h => ?_) (fun h => ?_)
     · refine o_r4 [(19, (.ptr 1 1)), (20, (vI a3.fKind)), (21, (vB (a3.fKind != 3))), (22, (vB (a3.fKind != 3)))] ?_
       refine i_o [21, 22] h (fun h => ?_) (fun h => ?_)
       · refine o_r9 [(8, (vB true)), (23, (.val undef)), (24, (.val undef)), (25, (.val undef)), (26, (.val undef)), (27, (.val undef)), (28, (.val undef)), (29, (vB true)), (30, (vB true))] ?_
         exact o_end (w11 _ _ (wkm [8] wh_nil) h)
       · refine o_r5 [(23, (vL Rule.c a1)), (24, (.ptr 1 2)), (25, (vS a3.fClass)), (26, (.ptr 2 2)), (27, (vS a4.fClass))] ?_
         refine bnd h fun r14 g15 h => ?_
         refine o_g ?_
         refine o_o (one_call (p_f142 g15)) ?_
         refine o_r3 [(8, (vB r14)), (29, (vB r14)), (30, (vB r14))] ?_
         exact o_end (w11 _ _ (wkm [8] wh_nil) h)
     · refine o_r13 [(19, (.val undef)), (20, (.val undef)), (21, (.val undef)), (22, (.val undef)), (23, (.val undef)), (24, (.val undef)), (25, (.val undef)), (26, (.val undef)), (27, (.val undef)), (28, (.val undef)), (29, (.val undef)), (30, (vB false))] ?_
       exact o_end (w11 _ _ (wkm [8] wh_nil) h)
 · refine s_so fun N17 k17 w17 => ?_
   refine o_r2 [(31, (vB (a2.fHow == 2))), (32, (vB (a2.fHow == 2)))] ?_
   refine o_end (k17 _ ?_)
   refine i_c [31, 32] h (fun h => ?_) (fun h => ?_)
   · refine J1 (r := r) (fun (x21 : Bool) => ⟨(mkd .any 97 0 [(8, (vB x21))]), []⟩) (f141_k19) ?_ ?_
     · intro x21 h
       rw [f141_k19.eq_1] at h
       exact c_ret (rets [] [(vB x21)] [(vB x21)] h)
     · intro N19 w19
       refine c_ops ?_
       refine o_r4 [(33, (.ptr 1 1)), (34, (vI a3.fKind)), (35, (vB (a3.fKind == 2))), (36, (vB (a3.fKind == 2)))] ?_
       refine i_o [35, 36] h (fun h => ?_) (fun h => ?_)
       · refine o_r5 [(8, (vB (a4.fKind == 1))), (37, (.ptr 2 1)), (38, (vI a4.fKind)), (39, (vB (a4.fKind == 1))), (40, (vB (a4.fKind == 1)))] ?_
         exact o_end (w19 _ _ (wkm [8] wh_nil) h)
       · refine o_r5 [(37, (.val undef)), (38, (.val undef)), (39, (.val undef)), (40, (vB false))] ?_
         exact o_end (w19 _ _ (wkm [8] wh_nil) h)
   · refine s_so fun N22 k22 w22 => ?_
     refine o_r2 [(41, (vB (a2.fHow == 3))), (42, (vB (a2.fHow == 3)))] ?_
     refine o_end (k22 _ ?_)
     refine i_c [41, 42] h (fun h => ?_) (fun h => ?_)
     · refine J1 (r := r) (fun (x26 : Bool) => ⟨(mkd .any 97 0 [(8, (vB x26))]), []⟩) (f141_k24) ?_ ?_
       · intro x26 h
         rw [f141_k24.eq_1] at h
         exact c_ret (rets [] [(vB x26)] [(vB x26)] h)
       · intro N24 w24
         refine c_ops ?_
         refine o_r4 [(43, (.ptr 1 1)), (44, (vI a3.fKind)), (45, (vB (a3.fKind == 1))), (46, (vB (a3.fKind == 1)))] ?_
         refine i_o [45, 46] h (fun h => ?_) (fun h => ?_)
         · refine o_r5 [(8, (vB (a4.fKind == 2))), (47, (.ptr 2 1)), (48, (vI a4.fKind)), (49, (vB (a4.fKind == 2))), (50, (vB (a4.fKind == 2)))] ?_
           exact o_end (w24 _ _ (wkm [8] wh_nil) h)
         · refine o_r5 [(47, (.val undef)), (48, (.val undef)), (49, (.val undef)), (50, (vB false))] ?_
           exact o_end (w24 _ _ (wkm [8] wh_nil) h)
     · refine s_so fun N27 k27 w27 => ?_
       refine o_r2 [(51, (vB (a2.fHow == 4))), (52, (vB (a2.fHow == 4)))] ?_
       refine o_end (k27 _ ?_)
       refine i_c [51, 52] h (fun h => ?_) (fun h => ?_)
       · refine J1 (r := r) (fun (x31 : Bool) => ⟨(mkd .any 97 0 [(8, (vB x31))]), []⟩) (f141_k29) ?_ ?_
         · intro x31 h
           rw [f141_k29.eq_1] at h
           exact c_ret (rets [] [(vB x31)] [(vB x31)] h)
         · intro N29 w29
           refine c_ops ?_
           refine o_r4 [(53, (.ptr 1 1)), (54, (vI a3.fKind)), (55, (vB (a3.fKind == 1))), (56, (vB (a3.fKind == 1)))] ?_
           refine i_o [55, 56] h (fun h => ?_) (fun h => ?_)
           · refine o_r5 [(8, (vB (a4.fKind == 1))), (57, (.ptr 2 1)), (58, (vI a4.fKind)), (59, (vB (a4.fKind == 1))), (60, (vB (a4.fKind == 1)))] ?_
             refine s_tm (mkd (.val undef) 97 0 [(0, (vL Rule.c a1)), (1, (.agg [(vS a2.fFrom), (vI a2.fHow), (vI a2.fN)])), (2, (.agg [(vS a3.fName), (vI a3.fKind), (vS a3.fClass)])), (3, (.agg [(vS a4.fName), (vI a4.fKind), (vS a4.fClass)])), (5, (.ptr 0 0)), (6, (.ptr 1 0)), (7, (.ptr 2 0)), (8, (vB (a4.fKind == 1))), (9, (.ptr 0 1)), (10, (vI a2.fHow)), (11, (vB false)), (12, (vB false)), (31, (vB false)), (32, (vB false)), (41, (vB false)), (42, (vB false)), (51, (vB true)), (52, (vB true)), (53, (.ptr 1 1)), (54, (vI a3.fKind)), (55, (vB true)), (56, (vB true)), (57, (.ptr 2 1)), (58, (vI a4.fKind)), (59, (vB (a4.fKind == 1))), (60, (vB (a4.fKind == 1)))]) ?_
             exact o_end (w29 _ _ (wkm [8] wh_nil) h)
           · refine o_r5 [(57, (.val undef)), (58, (.val undef)), (59, (.val undef)), (60, (vB false))] ?_
             refine s_tm (mkd (.val undef) 97 0 [(0, (vL Rule.c a1)), (1, (.agg [(vS a2.fFrom), (vI a2.fHow), (vI a2.fN)])), (2, (.agg [(vS a3.fName), (vI a3.fKind), (vS a3.fClass)])), (3, (.agg [(vS a4.fName), (vI a4.fKind), (vS a4.fClass)])), (5, (.ptr 0 0)), (6, (.ptr 1 0)), (7, (.ptr 2 0)), (8, (vB false)), (9, (.ptr 0 1)), (10, (vI a2.fHow)), (11, (vB false)), (12, (vB false)), (31, (vB false)), (32, (vB false)), (41, (vB false)), (42, (vB false)), (51, (vB true)), (52, (vB true)), (53, (.ptr 1 1)), (54, (vI a3.fKind)), (55, (vB false)), (56, (vB false)), (57, (.val undef)), (58, (.val undef)), (59, (.val undef)), (60, (vB false))]) ?_
             exact o_end (w29 _ _ (wkm [8] wh_nil) h)
       · refine s_so fun N32 k32 w32 => ?_
         refine o_r2 [(61, (vB (a2.fHow == 5))), (62, (vB (a2.fHow == 5)))] ?_
         refine o_end (k32 _ ?_)
         refine i_c [61, 62] h (fun h => ?_) (fun h => ?_)
         · refine J1 (r := r) (fun (x39 : Bool) => ⟨(mkd .any 97 0 [(8, (vB x39))]), []⟩) (f141_k34) ?_ ?_
           · intro x39 h
             rw [f141_k34.eq_1] at h
             exact c_ret (rets [] [(vB x39)] [(vB x39)] h)
           · intro N34 w34
             refine c_ops ?_
             refine o_r4 [(63, (.ptr 1 1)), (64, (vI a3.fKind)), (65, (vB (a3.fKind == 3))), (66, (vB (a3.fKind == 3)))] ?_
             refine s_tm (mkd (.val undef) 97 0 [(0, (vL Rule.c a1)), (1, (.agg [(vS a2.fFrom), (vI a2.fHow), (vI a2.fN)])), (2, (.agg [(vS a3.fName), (vI a3.fKind), (vS a3.fClass)])), (3, (.agg [(vS a4.fName), (vI a4.fKind), (vS a4.fClass)])), (5, (.ptr 0 0)), (6, (.ptr 1 0)), (7, (.ptr 2 0)), (8, (vB false)), (9, (.ptr 0 1)), (10, (vI a2.fHow)), (11, (vB false)), (12, (vB false)), (31, (vB false)), (32, (vB false)), (41, (vB false)), (42, (vB false)), (51, (vB false)), (52, (vB false)), (61, (vB true)), (62, (vB true)), (63, (.ptr 1 1)), (64, (vI a3.fKind)), (65, (vB (a3.fKind == 3))), (66, (vB (a3.fKind == 3)))]) ?_
             refine i_o [65, 66] h (fun h => ?_) (fun h => ?_)
             · refine o_r5 [(67, (.ptr 2 1)), (68, (vI a4.fKind)), (69, (vB (a4.fKind == 3))), (70, (vB (a4.fKind == 3))), (71, (vB (a4.fKind == 3)))] ?_
               refine i_o [69, 70, 71] h (fun h => ?_) (fun h => ?_)
               · refine o_r5 [(72, (vL Rule.c a1)), (73, (.ptr 1 2)), (74, (vS a3.fClass)), (75, (.ptr 2 2)), (76, (vS a4.fClass))] ?_
                 refine bnd h fun r37 g38 h => ?_
                 refine o_g ?_
                 refine o_o (one_call (p_f142 g38)) ?_
                 refine o_r2 [(8, (vB r37)), (78, (vB r37))] ?_
                 exact o_end (w34 _ _ (wkm [8] wh_nil) h)
               · refine o_r8 [(72, (.val undef)), (73, (.val undef)), (74, (.val undef)), (75, (.val undef)), (76, (.val undef)), (77, (.val undef)), (78, (vB false))] ?_
                 exact o_end (w34 _ _ (wkm [8] wh_nil) h)
             · refine o_r13 [(67, (.val undef)), (68, (.val undef)), (69, (.val undef)), (70, (vB false)), (71, (vB false)), (72, (.val undef)), (73, (.val undef)), (74, (.val undef)), (75, (.val undef)), (76, (.val undef)), (77, (.val undef)), (78, (vB false))] ?_
               exact o_end (w34 _ _ (wkm [8] wh_nil) h)
         · refine s_so fun N40 k40 w40 => ?_
           refine o_r2 [(79, (vB (a2.fHow == 6))), (80, (vB (a2.fHow == 6)))] ?_
           refine s_tm (mkd (.val undef) 97 0 [(0, (vL Rule.c a1)), (1, (.agg [(vS a2.fFrom), (vI a2.fHow), (vI a2.fN)])), (2, (.agg [(vS a3.fName), (vI a3.fKind), (vS a3.fClass)])), (3, (.agg [(vS a4.fName), (vI a4.fKind), (vS a4.fClass)])), (5, (.ptr 0 0)), (6, (.ptr 1 0)), (7, (.ptr 2 0)), (8, (vB false)), (9, (.ptr 0 1)), (10, (vI a2.fHow)), (11, (vB false)), (12, (vB false)), (31, (vB false)), (32, (vB false)), (41, (vB false)), (42, (vB false)), (51, (vB false)), (52, (vB false)), (61, (vB false)), (62, (vB false)), (79, (vB (a2.fHow == 6))), (80, (vB (a2.fHow == 6)))]) ?_
           refine o_end (w40 _ ⟨(mkd .any 97 0 [(5, (.ptr 0 0)), (7, (.ptr 2 0)), (79, (vB (a2.fHow == 6)))]), [(some (.box 82 [(vS a2.fFrom), (vI a2.fHow), (vI a2.fN)])), none, (some (.box 68 [(vS a4.fName), (vI a4.fKind), (vS a4.fClass)]))]⟩ (wkm [5, 7, 79] (whk (wh_drop (whk wh_nil)))) ?_)
           refine i_c [79] h (fun h => ?_) (fun h => ?_)
           · refine J1 (r := r) (fun (x47 : Bool) => ⟨(mkd .any 97 0 [(8, (vB x47))]), []⟩) (f141_k42) ?_ ?_
             · intro x47 h
               rw [f141_k42.eq_1] at h
               exact c_ret (rets [] [(vB x47)] [(vB x47)] h)
             · intro N42 w42
               refine c_ops ?_
               refine o_r4 [(81, (.ptr 2 1)), (82, (vI a4.fKind)), (83, (vB (a4.fKind == 1))), (84, (vB (a4.fKind == 1)))] ?_
               refine i_o [83, 84] h (fun h => ?_) (fun h => ?_)
               · refine o_r10 [(8, (vB true)), (85, (.val undef)), (86, (.val undef)), (87, (.val undef)), (88, (.val undef)), (89, (.val undef)), (90, (.val undef)), (91, (.val undef)), (92, (.val undef)), (93, (vB true))] ?_
                 exact o_end (w42 _ _ (wkm [8] wh_nil) h)
               · refine o_r4 [(85, (.ptr 2 1)), (86, (vI a4.fKind)), (87, (vB (a4.fKind == 2))), (88, (vB (a4.fKind == 2)))] ?_
                 refine i_o [87, 88] h (fun h => ?_) (fun h => ?_)
                 · refine o_r2 [(89, (.ptr 0 2)), (90, (vI a2.fN))] ?_
                   refine bnd h fun r45 g46 h => ?_
                   refine o_g ?_
                   refine o_o (one_call (p_f86 g46)) ?_
                   refine o_r3 [(8, (vB r45)), (92, (vB r45)), (93, (vB r45))] ?_
                   exact o_end (w42 _ _ (wkm [8] wh_nil) h)
                 · refine o_r6 [(8, (vB false)), (89, (.val undef)), (90, (.val undef)), (91, (.val undef)), (92, (vB false)), (93, (vB false))] ?_
                   exact o_end (w42 _ _ (wkm [8] wh_nil) h)
           · refine c_skip (k6 _ ?_)
             refine s_so fun N48 k48 w48 => ?_
             refine o_r4 [(8, (vB (a4.fKind == 3))), (94, (.ptr 2 1)), (95, (vI a4.fKind)), (96, (vB (a4.fKind == 3)))] ?_
             refine o_end (k48 _ ?_)
             exact c_ret (rets [] [(vB (a4.fKind == 3))] [(vB (a4.fKind == 3))] h)
theorem ic54 : fnIC Tryz.prog H0 54 = some ([.tmp 8], 82, (.seq (.ops [zO 5 (.box 0 82 [] (.t 1)), zO 7 (.box 0 68 [] (.t 3)), zO 8 (.mov (.c (.int .i64 0)))]) (.seq (.ops [zM 13 2, zO 14 (.faddr (.t 5) 0), zO 15 (.ld (.t 14) 1 false), zO 16 (.call 85 [(.t 13), (.t 15)]), zM 9 16]) (.seq (.ops [zO 17 (.faddr (.t 5) 1), zO 18 (.ld (.t 17) 1 false), zO 19 (.call 86 [(.t 18), (.c (.int .i64 1)), (.c (.int .i64 5))]), zM 10 19]) (.seq (.seq (.ops [zM 20 10, zM 21 20, zN 22 21 true 9, zG 23 21 true (.sc (.bin .lss 3) [(.t 22), (.c (.int .i64 0))]), zO 24 (.pick (.t 21) (.t 23) (.c (.bool false)))]) (.cond (.t 24)
  (.seq (.ops [zO 8 (.mov (.c (.int .i64 4)))]) .ret)
  .skip)) (.seq (.ops [zO 11 (.mov (.c (.int .i64 0)))]) (.seq (.seq (.ops [zO 25 (.faddr (.t 5) 1), zO 26 (.ld (.t 25) 1 false), zO 27 (.sc (.bin .eql 3) [(.t 26), (.c (.int .i64 4))]), zM 28 27, zG 29 28 false (.faddr (.t 5) 1), zG 30 28 false (.ld (.t 29) 1 false), zG 31 28 false (.sc (.bin .eql 3) [(.t 30), (.c (.int .i64 6))]), zO 32 (.pick (.t 28) (.c (.bool true)) (.t 31))]) (.cond (.t 32)
  (.ops [zO 11 (.mov (.c (.int .i64 1099511627776)))])
  .skip)) (.seq (.seq (.ops [zO 33 (.faddr (.t 5) 1), zO 34 (.ld (.t 33) 1 false), zO 35 (.call 86 [(.t 34), (.c (.int .i64 1)), (.c (.int .i64 7))]), zO 36 (.sc (.un .not) [(.t 35)]), zM 37 36, zN 38 37 false 10, zG 39 37 false (.sc (.un .not) [(.t 38)]), zN 40 37 false 39, zG 41 40 true (.faddr (.t 5) 0), zG 42 40 true (.ld (.t 41) 1 false), zG 43 40 true (.sc (.bin .neq 9) [(.t 42), (.c (.string ⟨#[]⟩))]), zG 44 37 false (.pick (.t 40) (.t 43) (.c (.bool false))), zO 45 (.pick (.t 37) (.c (.bool true)) (.t 44)), zM 46 45, zG 47 46 false (.faddr (.t 5) 2), zG 48 46 false (.ld (.t 47) 1 false), zN 49 46 false 11, zG 50 46 false (.sc (.un .neg) [(.t 49)]), zN 51 46 false 11, zG 52 46 false (.call 86 [(.t 48), (.t 50), (.t 51)]), zG 53 46 false (.sc (.un .not) [(.t 52)]), zO 54 (.pick (.t 46) (.c (.bool true)) (.t 53)), zM 55 54, zG 56 55 false (.faddr (.t 5) 1), zG 57 55 false (.ld (.t 56) 1 false), zG 58 55 false (.sc (.bin .eql 3) [(.t 57), (.c (.int .i64 6))]), zN 59 55 false 58, zG 60 59 true (.faddr (.t 7) 1), zG 61 59 true (.ld (.t 60) 1 false), zG 62 59 true (.sc (.bin .eql 3) [(.t 61), (.c (.int .i64 2))]), zG 63 55 false (.pick (.t 59) (.t 62) (.c (.bool false))), zN 64 55 false 63, zG 65 64 true (.faddr (.t 5) 2), zG 66 64 true (.ld (.t 65) 1 false), zG 67 64 true (.call 86 [(.t 66), (.c (.int .i64 0)), (.c (.int .i64 1))]), zG 68 64 true (.sc (.un .not) [(.t 67)]), zG 69 55 false (.pick (.t 64) (.t 68) (.c (.bool false))), zO 70 (.pick (.t 55) (.c (.bool true)) (.t 69))]) (.cond (.t 70)
  (.seq (.ops [zO 8 (.mov (.c (.int .i64 1)))]) .ret)
  .skip)) (.seq (.ops [zO 12 (.alloc 0 68 [] [(.string ⟨#[]⟩), (.int .i64 0), (.string ⟨#[]⟩)])]) (.seq (.seq (.ops [zM 71 10]) (.cond (.t 71)
  (.ops [zM 72 2, zM 73 9, zO 74 (.iaddr 3 (.t 72) (.t 73)), zO 75 (.ld (.t 74) 3 true), zU (.st true 3 [] (.t 12) (.t 75))])
  .skip)) (.seq (.ops [zM 76 0, zO 77 (.ld (.t 5) 3 true), zO 78 (.ld (.t 12) 3 true), zO 79 (.ld (.t 7) 3 true), zO 80 (.call 94 [(.t 76), (.t 77), (.t 78), (.t 79)]), zO 81 (.call 81 [(.t 80), (.c (.int .i64 8))]), zM 8 81]) .ret))))))))))) := by kernel_rfl
def f116_k52 (n : Nat) (a1 : (List Rule)) (a2 : Give) (a4 : Col) (x57 : ByteArray) (x58 : Int) (x59 : ByteArray) : Option Int := ((f141 n a1 a2 (Col.mk x57 x58 x59) a4).bind fun r61 => ((f50 n r61 8).bind fun r63 => some r63))
def f116_k27 (x15 : Bool) (a3 : (List Col)) (r7 : Int) (n : Nat) (a1 : (List Rule)) (a2 : Give) (a4 : Col) (x48 : Bool) : Option Int := (bif x48 then some 1 else (bif x15 then ((gi a3 r7).bind fun x55 => (f116_k52 n a1 a2 a4 x55.fName x55.fKind x55.fClass)) else (f116_k52 n a1 a2 a4 (ByteArray.mk #[]) 0 (ByteArray.mk #[]))))
def f116_k20 (n : Nat) (a2 : Give) (x15 : Bool) (a4 : Col) (a3 : (List Col)) (r7 : Int) (a1 : (List Rule)) (x25 : Int) : Option Int := ((f86 n a2.fHow 1 7).bind fun r28 => (bif (!r28) then (f116_k27 x15 a3 r7 n a1 a2 a4 true) else (bif (!x15) then (bif (!(sEqF a2.fFrom (ByteArray.mk #[]))) then (f116_k27 x15 a3 r7 n a1 a2 a4 true) else ((f86 n a2.fN (wr .i64 (0 - x25)) x25).bind fun r34 => (bif (!r34) then (f116_k27 x15 a3 r7 n a1 a2 a4 true) else (bif (a2.fHow == 6) then (bif (a4.fKind == 2) then ((f86 n a2.fN 0 1).bind fun r39 => (f116_k27 x15 a3 r7 n a1 a2 a4 (!r39))) else (f116_k27 x15 a3 r7 n a1 a2 a4 false)) else (f116_k27 x15 a3 r7 n a1 a2 a4 false))))) else ((f86 n a2.fN (wr .i64 (0 - x25)) x25).bind fun r41 => (bif (!r41) then (f116_k27 x15 a3 r7 n a1 a2 a4 true) else (bif (a2.fHow == 6) then (bif (a4.fKind == 2) then ((f86 n a2.fN 0 1).bind fun r46 => (f116_k27 x15 a3 r7 n a1 a2 a4 (!r46))) else (f116_k27 x15 a3 r7 n a1 a2 a4 false)) else (f116_k27 x15 a3 r7 n a1 a2 a4 false)))))))
def f116_k21 (n : Nat) (a2 : Give) (x15 : Bool) (a4 : Col) (a3 : (List Col)) (r7 : Int) (a1 : (List Rule)) (x23 : Bool) : Option Int := (bif x23 then (f116_k20 n a2 x15 a4 a3 r7 a1 1099511627776) else (f116_k20 n a2 x15 a4 a3 r7 a1 0))
def f116_k13 (a2 : Give) (n : Nat) (a4 : Col) (a3 : (List Col)) (r7 : Int) (a1 : (List Rule)) (x15 : Bool) (x16 : Bool) : Option Int := (bif x16 then some 4 else (bif (a2.fHow == 4) then (f116_k21 n a2 x15 a4 a3 r7 a1 true) else (f116_k21 n a2 x15 a4 a3 r7 a1 (a2.fHow == 6))))
def f116 (n : Nat) (a1 : (List Rule)) (a2 : Give) (a3 : (List Col)) (a4 : Col) : Option Int := ((f95 n a3 a2.fFrom).bind fun r7 => ((f86 n a2.fHow 1 5).bind fun r10 => (bif r10 then (f116_k13 a2 n a4 a3 r7 a1 true (decide (r7 < 0))) else (f116_k13 a2 n a4 a3 r7 a1 false false))))
def f116_r (r : Int) : AV := (vI r)
theorem p_f116 {n : Nat} {a1 : (List Rule)} {a2 : Give} {a3 : (List Col)} {a4 : Col} {r : Int} (h : f116 n a1 a2 a3 a4 = some r) : PureSpec Tryz.prog 54 [(vL Rule.c a1), (.agg [(vS a2.fFrom), (vI a2.fHow), (vI a2.fN)]), (vL Col.c a3), (.agg [(vS a4.fName), (vI a4.fKind), (vS a4.fClass)])] (f116_r r) := by
 rw [f116.eq_1] at h
 refine pure_of hmix ic54 ?_
 refine go_to (mkd (.val undef) 82 0 [(0, (vL Rule.c a1)), (1, (.agg [(vS a2.fFrom), (vI a2.fHow), (vI a2.fN)])), (2, (vL Col.c a3)), (3, (.agg [(vS a4.fName), (vI a4.fKind), (vS a4.fClass)]))]) ?_
 refine s_so fun N5 k5 w5 => ?_
 refine o_h3 [(5, (.ptr 0 0)), (7, (.ptr 1 0)), (8, (vI 0))] [(some (.box 82 [(vS a2.fFrom), (vI a2.fHow), (vI a2.fN)])), (some (.box 68 [(vS a4.fName), (vI a4.fKind), (vS a4.fClass)]))] ?_
 refine o_end (k5 _ ?_)
 refine s_so fun N6 k6 w6 => ?_
 refine o_r3 [(13, (vL Col.c a3)), (14, (.ptr 0 0)), (15, (vS a2.fFrom))] ?_
 refine bnd h fun r7 g8 h => ?_
 refine o_o (one_call (p_f95 g8)) ?_
 refine o_r1 [(9, (vI r7))] ?_
 refine o_end (k6 _ ?_)
 refine s_so fun N9 k9 w9 => ?_
 refine o_r2 [(17, (.ptr 0 1)), (18, (vI a2.fHow))] ?_
 refine bnd h fun r10 g11 h => ?_
 refine o_o (one_call (p_f86 g11)) ?_
 refine o_r1 [(10, (vB r10))] ?_
 refine o_end (k9 _ ?_)
 refine s_seq fun N12 k12 w12 => ?_
 refine J2 (r := r) (fun (x15 : Bool) (x16 : Bool) => ⟨(mkd .any 82 0 [(0, (vL Rule.c a1)), (2, (vL Col.c a3)), (5, (.ptr 0 0)), (7, (.ptr 1 0)), (9, (vI r7)), (10, (vB x15)), (24, (vB x16))]), [(some (.box 82 [(vS a2.fFrom), (vI a2.fHow), (vI a2.fN)])), (some (.box 68 [(vS a4.fName), (vI a4.fKind), (vS a4.fClass)]))]⟩) (f116_k13 a2 n a4 a3 r7 a1) ?_ ?_
 · intro x15 x16 h
   rw [f116_k13.eq_1] at h
   refine i_c [24] h (fun h => ?_) (fun h => ?_)
   · refine s_so fun N18 k18 w18 => ?_
     refine o_r1 [(8, (vI 4))] ?_
     refine o_end (k18 _ ?_)
     exact c_ret (rets [] [(vI 4)] [(vI 4)] h)
   · refine c_skip (k12 _ ?_)
     refine s_so fun N19 k19 w19 => ?_
     refine o_r1 [(11, (vI 0))] ?_
     refine o_end (k19 _ ?_)
     refine J1 (r := r) (fun (x25 : Int) => ⟨(mkd .any 82 0 [(0, (vL Rule.c a1)), (2, (vL Col.c a3)), (5, (.ptr 0 0)), (7, (.ptr 1 0)), (9, (vI r7)), (10, (vB x15)), (11, (vI x25))]), [(some (.box 82 [(vS a2.fFrom), (vI a2.fHow), (vI a2.fN)])), (some (.box 68 [(vS a4.fName), (vI a4.fKind), (vS a4.fClass)]))]⟩) (f116_k20 n a2 x15 a4 a3 r7 a1) ?_ ?_
     · intro x25 h
       rw [f116_k20.eq_1] at h
       refine s_seq fun N26 k26 w26 => ?_
       refine J1 (r := r) (fun (x48 : Bool) => ⟨(mkd .any 82 0 [(0, (vL Rule.c a1)), (2, (vL Col.c a3)), (5, (.ptr 0 0)), (7, (.ptr 1 0)), (9, (vI r7)), (10, (vB x15)), (70, (vB x48))]), [(some (.box 82 [(vS a2.fFrom), (vI a2.fHow), (vI a2.fN)])), (some (.box 68 [(vS a4.fName), (vI a4.fKind), (vS a4.fClass)]))]⟩) (f116_k27 x15 a3 r7 n a1 a2 a4) ?_ ?_
       · intro x48 h
         rw [f116_k27.eq_1] at h
         refine i_c [70] h (fun h => ?_) (fun h => ?_)
         · refine s_so fun N50 k50 w50 => ?_
           refine o_r1 [(8, (vI 1))] ?_
           refine o_end (k50 _ ?_)
           exact c_ret (rets [] [(vI 1)] [(vI 1)] h)
         · refine c_skip (k26 _ ?_)
           refine s_so fun N51 k51 w51 => ?_
           refine o_h1 [(12, (.ptr 2 0))] [(some (.box 82 [(vS a2.fFrom), (vI a2.fHow), (vI a2.fN)])), (some (.box 68 [(vS a4.fName), (vI a4.fKind), (vS a4.fClass)])), (some (.box 68 [(vS (ByteArray.mk #[])), (vI 0), (vS (ByteArray.mk #[]))]))] ?_
           refine o_end (k51 _ ?_)
           refine J3 (r := r) (fun (x57 : ByteArray) (x58 : Int) (x59 : ByteArray) => ⟨(mkd .any 82 0 [(0, (vL Rule.c a1)), (5, (.ptr 0 0)), (7, (.ptr 1 0)), (12, (.ptr 2 0))]), [(some (.box 82 [(vS a2.fFrom), (vI a2.fHow), (vI a2.fN)])), (some (.box 68 [(vS a4.fName), (vI a4.fKind), (vS a4.fClass)])), (some (.box 68 [(vS x57), (vI x58), (vS x59)]))]⟩) (f116_k52 n a1 a2 a4) ?_ ?_
           · intro x57 x58 x59 h
             rw [f116_k52.eq_1] at h
             refine s_so fun N60 k60 w60 => ?_
             refine o_r4 [(76, (vL Rule.c a1)), (77, (.agg [(vS a2.fFrom), (vI a2.fHow), (vI a2.fN)])), (78, (.agg [(vS x57), (vI x58), (vS x59)])), (79, (.agg [(vS a4.fName), (vI a4.fKind), (vS a4.fClass)]))] ?_
             refine bnd h fun r61 g62 h => ?_
             refine o_o (one_call (p_f141 g62)) ?_
             refine bnd h fun r63 g64 h => ?_
             refine o_o (one_call (p_f50 g64)) ?_
             refine o_r1 [(8, (vI r63))] ?_
             refine o_end (k60 _ ?_)
             exact c_ret (rets [] [(vI r63)] [(vI r63)] h)
           · intro N52 w52
             refine s_so fun N53 k53 w53 => ?_
             refine o_r1 [(71, (vB x15))] ?_
             refine o_end (k53 _ ?_)
             refine i_c [10, 71] h (fun h => ?_) (fun h => ?_)
             · refine c_ops ?_
               refine o_r2 [(72, (vL Col.c a3)), (73, (vI r7))] ?_
               refine bnd h fun x55 g56 h => ?_
               refine o_o (one_ia (f := Col.c) (ki := .i64) g56) ?_
               refine o_h2 [(75, (.agg [(vS x55.fName), (vI x55.fKind), (vS x55.fClass)]))] [(some (.box 82 [(vS a2.fFrom), (vI a2.fHow), (vI a2.fN)])), (some (.box 68 [(vS a4.fName), (vI a4.fKind), (vS a4.fClass)])), (some (.box 68 [(vS x55.fName), (vI x55.fKind), (vS x55.fClass)]))] ?_
               exact o_end (w52 _ _ _ _ (wkm [0, 5, 7, 12] (whk (whk (whk wh_nil)))) h)
             · exact c_skip (w52 _ _ _ _ (wkm [0, 5, 7, 12] (whk (whk (whk wh_nil)))) h)
       · intro N27 w27
         refine c_ops ?_
         refine o_r2 [(33, (.ptr 0 1)), (34, (vI a2.fHow))] ?_
         refine bnd h fun r28 g29 h => ?_
         refine o_o (one_call (p_f86 g29)) ?_
         refine o_r2 [(36, (vB (!r28))), (37, (vB (!r28)))] ?_
         refine i_o [36, 37] h (fun h => ?_) (fun h => ?_)
         · refine o_r16 [(38, (.val undef)), (39, (.val undef)), (40, (.val undef)), (41, (.val undef)), (42, (.val undef)), (43, (.val undef)), (44, (.val undef)), (45, (vB true)), (46, (vB true)), (47, (.val undef)), (48, (.val undef)), (49, (.val undef)), (50, (.val undef)), (51, (.val undef)), (52, (.val undef)), (53, (.val undef))] ?_
           refine o_r16 [(54, (vB true)), (55, (vB true)), (56, (.val undef)), (57, (.val undef)), (58, (.val undef)), (59, (.val undef)), (60, (.val undef)), (61, (.val undef)), (62, (.val undef)), (63, (.val undef)), (64, (.val undef)), (65, (.val undef)), (66, (.val undef)), (67, (.val undef)), (68, (.val undef)), (69, (.val undef))] ?_
           refine o_r1 [(70, (vB true))] ?_
           exact o_end (w27 _ _ (wkm [0, 2, 5, 7, 9, 10, 70] (whk (whk wh_nil))) h)
         · refine o_r3 [(38, (vB x15)), (39, (vB (!x15))), (40, (vB (!x15)))] ?_
           refine i_o [39, 40] h (fun h => ?_) (fun h => ?_)
           · refine o_r2 [(41, (.ptr 0 0)), (42, (vS a2.fFrom))] ?_
             refine o_g ?_
             refine o_o (one_sc (vs := [.string a2.fFrom, .string (ByteArray.mk #[])]) (str_neq a2.fFrom (ByteArray.mk #[]))) ?_
             refine o_r3 [(44, (vB (!(sEqF a2.fFrom (ByteArray.mk #[]))))), (45, (vB (!(sEqF a2.fFrom (ByteArray.mk #[]))))), (46, (vB (!(sEqF a2.fFrom (ByteArray.mk #[])))))] ?_
             refine i_o [43, 44, 45, 46] h (fun h => ?_) (fun h => ?_)
             · refine o_r16 [(47, (.val undef)), (48, (.val undef)), (49, (.val undef)), (50, (.val undef)), (51, (.val undef)), (52, (.val undef)), (53, (.val undef)), (54, (vB true)), (55, (vB true)), (56, (.val undef)), (57, (.val undef)), (58, (.val undef)), (59, (.val undef)), (60, (.val undef)), (61, (.val undef)), (62, (.val undef))] ?_
               refine o_r8 [(63, (.val undef)), (64, (.val undef)), (65, (.val undef)), (66, (.val undef)), (67, (.val undef)), (68, (.val undef)), (69, (.val undef)), (70, (vB true))] ?_
               exact o_end (w27 _ _ (wkm [0, 2, 5, 7, 9, 10, 70] (whk (whk wh_nil))) h)
             · refine o_r5 [(47, (.ptr 0 2)), (48, (vI a2.fN)), (49, (vI x25)), (50, (vI (wr .i64 (0 - x25)))), (51, (vI x25))] ?_
               refine bnd h fun r34 g35 h => ?_
               refine o_g ?_
               refine o_o (one_call (p_f86 g35)) ?_
               refine o_r3 [(53, (vB (!r34))), (54, (vB (!r34))), (55, (vB (!r34)))] ?_
               refine s_tm (mkd .any 82 0 [(0, (vL Rule.c a1)), (2, (vL Col.c a3)), (5, (.ptr 0 0)), (7, (.ptr 1 0)), (9, (vI r7)), (10, (vB x15)), (11, (vI x25)), (33, (.ptr 0 1)), (34, (vI a2.fHow)), (35, (vB r28)), (36, (vB false)), (37, (vB false)), (38, (vB x15)), (39, (vB true)), (40, (vB true)), (41, (.ptr 0 0)), (42, (vS a2.fFrom)), (43, (vB false)), (44, (vB false)), (45, (vB false)), (46, (vB false)), (47, (.ptr 0 2)), (48, (vI a2.fN)), (49, (vI x25)), (50, (vI (wr .i64 (0 - x25)))), (51, (vI x25)), (52, (vB r34)), (53, (vB (!r34))), (54, (vB (!r34))), (55, (vB (!r34)))]) ?_
               refine i_o [53, 54, 55] h (fun h => ?_) (fun h => ?_)
               · refine o_r15 [(56, (.val undef)), (57, (.val undef)), (58, (.val undef)), (59, (.val undef)), (60, (.val undef)), (61, (.val undef)), (62, (.val undef)), (63, (.val undef)), (64, (.val undef)), (65, (.val undef)), (66, (.val undef)), (67, (.val undef)), (68, (.val undef)), (69, (.val undef)), (70, (vB true))] ?_
                 exact o_end (w27 _ _ (wkm [0, 2, 5, 7, 9, 10, 70] (whk (whk wh_nil))) h)
               · refine o_r4 [(56, (.ptr 0 1)), (57, (vI a2.fHow)), (58, (vB (a2.fHow == 6))), (59, (vB (a2.fHow == 6)))] ?_
                 refine i_o [58, 59] h (fun h => ?_) (fun h => ?_)
                 · refine o_r5 [(60, (.ptr 1 1)), (61, (vI a4.fKind)), (62, (vB (a4.fKind == 2))), (63, (vB (a4.fKind == 2))), (64, (vB (a4.fKind == 2)))] ?_
                   refine i_o [62, 63, 64] h (fun h => ?_) (fun h => ?_)
                   · refine o_r2 [(65, (.ptr 0 2)), (66, (vI a2.fN))] ?_
                     refine bnd h fun r39 g40 h => ?_
                     refine o_g ?_
                     refine o_o (one_call (p_f86 g40)) ?_
                     refine o_r3 [(68, (vB (!r39))), (69, (vB (!r39))), (70, (vB (!r39)))] ?_
                     exact o_end (w27 _ _ (wkm [0, 2, 5, 7, 9, 10, 70] (whk (whk wh_nil))) h)
                   · refine o_r6 [(65, (.val undef)), (66, (.val undef)), (67, (.val undef)), (68, (.val undef)), (69, (vB false)), (70, (vB false))] ?_
                     exact o_end (w27 _ _ (wkm [0, 2, 5, 7, 9, 10, 70] (whk (whk wh_nil))) h)
                 · refine o_r11 [(60, (.val undef)), (61, (.val undef)), (62, (.val undef)), (63, (vB false)), (64, (vB false)), (65, (.val undef)), (66, (.val undef)), (67, (.val undef)), (68, (.val undef)), (69, (vB false)), (70, (vB false))] ?_
                   exact o_end (w27 _ _ (wkm [0, 2, 5, 7, 9, 10, 70] (whk (whk wh_nil))) h)
           · refine o_r11 [(41, (.val undef)), (42, (.val undef)), (43, (.val undef)), (44, (vB false)), (45, (vB false)), (46, (vB false)), (47, (.ptr 0 2)), (48, (vI a2.fN)), (49, (vI x25)), (50, (vI (wr .i64 (0 - x25)))), (51, (vI x25))] ?_
             refine bnd h fun r41 g42 h => ?_
             refine o_g ?_
             refine o_o (one_call (p_f86 g42)) ?_
             refine o_r3 [(53, (vB (!r41))), (54, (vB (!r41))), (55, (vB (!r41)))] ?_
             refine i_o [53, 54, 55] h (fun h => ?_) (fun h => ?_)
             · refine o_r15 [(56, (.val undef)), (57, (.val undef)), (58, (.val undef)), (59, (.val undef)), (60, (.val undef)), (61, (.val undef)), (62, (.val undef)), (63, (.val undef)), (64, (.val undef)), (65, (.val undef)), (66, (.val undef)), (67, (.val undef)), (68, (.val undef)), (69, (.val undef)), (70, (vB true))] ?_
               exact o_end (w27 _ _ (wkm [0, 2, 5, 7, 9, 10, 70] (whk (whk wh_nil))) h)
             · refine o_r4 [(56, (.ptr 0 1)), (57, (vI a2.fHow)), (58, (vB (a2.fHow == 6))), (59, (vB (a2.fHow == 6)))] ?_
               refine i_o [58, 59] h (fun h => ?_) (fun h => ?_)
               · refine o_r5 [(60, (.ptr 1 1)), (61, (vI a4.fKind)), (62, (vB (a4.fKind == 2))), (63, (vB (a4.fKind == 2))), (64, (vB (a4.fKind == 2)))] ?_
                 refine s_tm (mkd .any 82 0 [(0, (vL Rule.c a1)), (2, (vL Col.c a3)), (5, (.ptr 0 0)), (7, (.ptr 1 0)), (9, (vI r7)), (10, (vB x15)), (11, (vI x25)), (33, (.ptr 0 1)), (34, (vI a2.fHow)), (35, (vB r28)), (36, (vB false)), (37, (vB false)), (38, (vB x15)), (39, (vB false)), (40, (vB false)), (41, (.val undef)), (42, (.val undef)), (43, (.val undef)), (44, (vB false)), (45, (vB false)), (46, (vB false)), (47, (.ptr 0 2)), (48, (vI a2.fN)), (49, (vI x25)), (50, (vI (wr .i64 (0 - x25)))), (51, (vI x25)), (52, (vB r41)), (53, (vB false)), (54, (vB false)), (55, (vB false)), (56, (.ptr 0 1)), (57, (vI a2.fHow)), (58, (vB true)), (59, (vB true)), (60, (.ptr 1 1)), (61, (vI a4.fKind)), (62, (vB (a4.fKind == 2))), (63, (vB (a4.fKind == 2))), (64, (vB (a4.fKind == 2)))]) ?_
                 refine i_o [62, 63, 64] h (fun h => ?_) (fun h => ?_)
                 · refine o_r2 [(65, (.ptr 0 2)), (66, (vI a2.fN))] ?_
                   refine bnd h fun r46 g47 h => ?_
                   refine o_g ?_
                   refine o_o (one_call (p_f86 g47)) ?_
                   refine o_r3 [(68, (vB (!r46))), (69, (vB (!r46))), (70, (vB (!r46)))] ?_
                   exact o_end (w27 _ _ (wkm [0, 2, 5, 7, 9, 10, 70] (whk (whk wh_nil))) h)
                 · refine o_r6 [(65, (.val undef)), (66, (.val undef)), (67, (.val undef)), (68, (.val undef)), (69, (vB false)), (70, (vB false))] ?_
                   exact o_end (w27 _ _ (wkm [0, 2, 5, 7, 9, 10, 70] (whk (whk wh_nil))) h)
               · refine o_r11 [(60, (.val undef)), (61, (.val undef)), (62, (.val undef)), (63, (vB false)), (64, (vB false)), (65, (.val undef)), (66, (.val undef)), (67, (.val undef)), (68, (.val undef)), (69, (vB false)), (70, (vB false))] ?_
                 refine s_tm (mkd .any 82 0 [(0, (vL Rule.c a1)), (2, (vL Col.c a3)), (5, (.ptr 0 0)), (7, (.ptr 1 0)), (9, (vI r7)), (10, (vB x15)), (11, (vI x25)), (33, (.ptr 0 1)), (34, (vI a2.fHow)), (35, (vB r28)), (36, (vB false)), (37, (vB false)), (38, (vB x15)), (39, (vB false)), (40, (vB false)), (41, (.val undef)), (42, (.val undef)), (43, (.val undef)), (44, (vB false)), (45, (vB false)), (46, (vB false)), (47, (.ptr 0 2)), (48, (vI a2.fN)), (49, (vI x25)), (50, (vI (wr .i64 (0 - x25)))), (51, (vI x25)), (52, (vB r41)), (53, (vB false)), (54, (vB false)), (55, (vB false)), (56, (.ptr 0 1)), (57, (vI a2.fHow)), (58, (vB false)), (59, (vB false)), (60, (.val undef)), (61, (.val undef)), (62, (.val undef)), (63, (vB false)), (64, (vB false)), (65, (.val undef)), (66, (.val undef)), (67, (.val undef)), (68, (.val undef)), (69, (vB false)), (70, (vB false))]) ?_
                 exact o_end (w27 _ _ (wkm [0, 2, 5, 7, 9, 10, 70] (whk (whk wh_nil))) h)
     · intro N20 w20
       refine J1 (r := r) (fun (x23 : Bool) => ⟨(mkd .any 82 0 [(0, (vL Rule.c a1)), (2, (vL Col.c a3)), (5, (.ptr 0 0)), (7, (.ptr 1 0)), (9, (vI r7)), (10, (vB x15)), (11, (vI 0)), (32, (vB x23))]), [(some (.box 82 [(vS a2.fFrom), (vI a2.fHow), (vI a2.fN)])), (some (.box 68 [(vS a4.fName), (vI a4.fKind), (vS a4.fClass)]))]⟩) (f116_k21 n a2 x15 a4 a3 r7 a1) ?_ ?_
       · intro x23 h
         rw [f116_k21.eq_1] at h
         refine i_c [32] h (fun h => ?_) (fun h => ?_)
         · refine c_ops ?_
           refine o_r1 [(11, (vI 1099511627776))] ?_
           exact o_end (w20 _ _ (wkm [0, 2, 5, 7, 9, 10, 11] (whk (whk wh_nil))) h)
         · exact c_skip (w20 _ _ (wkm [0, 2, 5, 7, 9, 10, 11] (whk (whk wh_nil))) h)
       · intro N21 w21
         refine c_ops ?_
         refine o_r4 [(25, (.ptr 0 1)), (26, (vI a2.fHow)), (27, (vB (a2.fHow == 4))), (28, (vB (a2.fHow == 4)))] ?_
         refine i_o [27, 28] h (fun h => ?_) (fun h => ?_)
         · refine o_r4 [(29, (.val undef)), (30, (.val undef)), (31, (.val undef)), (32, (vB true))] ?_
           exact o_end (w21 _ _ (wkm [0, 2, 5, 7, 9, 10, 11, 32] (whk (whk wh_nil))) h)
         · refine o_r4 [(29, (.ptr 0 1)), (30, (vI a2.fHow)), (31, (vB (a2.fHow == 6))), (32, (vB (a2.fHow == 6)))] ?_
           exact o_end (w21 _ _ (wkm [0, 2, 5, 7, 9, 10, 11, 32] (whk (whk wh_nil))) h)
 · intro N13 w13
   refine c_ops ?_
   refine o_r2 [(20, (vB r10)), (21, (vB r10))] ?_
   refine i_o [10, 19, 20, 21] h (fun h => ?_) (fun h => ?_)
   · refine o_r3 [(22, (vI r7)), (23, (vB (decide (r7 < 0)))), (24, (vB (decide (r7 < 0))))] ?_
     exact o_end (w13 _ _ _ (wkm [0, 2, 5, 7, 9, 10, 24] (whk (whk wh_nil))) h)
   · refine o_r3 [(22, (.val undef)), (23, (.val undef)), (24, (vB false))] ?_
     exact o_end (w13 _ _ _ (wkm [0, 2, 5, 7, 9, 10, 24] (whk (whk wh_nil))) h)
theorem ic45 : fnIC Tryz.prog H0 45 = some ([.tmp 6], 120, (.seq (.ops [zO 6 (.mov (.c (.int .i64 0)))]) (.seq (.seq (.ops [zM 22 2, zO 23 (.len false (.t 22)), zO 24 (.sc (.bin .gtr 3) [(.t 23), (.c (.int .i64 24))])]) (.cond (.t 24)
  (.seq (.ops [zO 6 (.mov (.c (.int .i64 3)))]) .ret)
  .skip)) (.seq (.seq (.ops [zM 25 2, zO 26 (.len false (.t 25)), zO 27 (.mov (.c (.int .i64 0)))]) (.block 0 (.loop (.seq (.ops [zO 28 (.sc (.bin .lss 3) [(.t 27), (.t 26)])]) (.seq (.cond (.t 28)
  .skip
  (.exit 0)) (.seq (.block 1 (.seq (.ops [zM 29 27, zO 30 (.iaddr 3 (.t 25) (.t 27)), zO 31 (.ld (.t 30) 3 true), zO 8 (.alloc 0 71 [(2, 82, 3, 0)] [(.string ⟨#[]⟩), (.string ⟨#[]⟩), (.slice none 0 0)]), zM 7 29, zU (.st true 3 [(2, 82, 3, 0)] (.t 8) (.t 31))]) (.seq (.seq (.ops [zM 32 0, zO 33 (.faddr (.t 8) 0), zO 34 (.ld (.t 33) 1 false), zO 35 (.call 37 [(.t 32), (.t 34)]), zO 36 (.sc (.bin .lss 3) [(.t 35), (.c (.int .i64 0))]), zM 37 36, zN 38 37 false 1, zG 39 37 false (.faddr (.t 8) 1), zG 40 37 false (.ld (.t 39) 1 false), zG 41 37 false (.call 37 [(.t 38), (.t 40)]), zG 42 37 false (.sc (.bin .lss 3) [(.t 41), (.c (.int .i64 0))]), zO 43 (.pick (.t 37) (.c (.bool true)) (.t 42))]) (.cond (.t 43)
  (.seq (.ops [zO 6 (.mov (.c (.int .i64 4)))]) .ret)
  .skip)) (.seq (.draw [] [⟨zM 45 2, false, 0, 1⟩, ⟨zM 46 7, false, 0, 1⟩, ⟨zO 47 (.lsl 3 (.t 45) none (some (.t 46))), false, 0, 1⟩, ⟨zO 48 (.faddr (.t 8) 0), false, 0, 1⟩, ⟨zO 49 (.ld (.t 48) 1 false), false, 0, 1⟩, ⟨zO 50 (.call 36 [(.t 47), (.t 49)]), false, 0, 1⟩, ⟨zM 44 50, false, 0, 1⟩, ⟨zO 51 (.ext (.t 44) 0), false, 0, 1⟩, ⟨zO 52 (.ext (.t 44) 1), false, 0, 2⟩, ⟨zO 9 (.alloc 0 71 [(2, 82, 3, 0)] [(.string ⟨#[]⟩), (.string ⟨#[]⟩), (.slice none 0 0)]), true, 0, 1⟩, ⟨zU (.st true 3 [(2, 82, 3, 0)] (.t 9) (.t 51)), true, 1, 2⟩, ⟨zM 10 52, false, 2, 2⟩]) (.seq (.ops [zM 53 10]) (.cond (.t 53)
  (.seq (.ops [zO 6 (.mov (.c (.int .i64 6)))]) .ret)
  .skip)))))) (.ops [zO 54 (.sc (.bin .add 3) [(.t 27), (.c (.int .i64 1))]), zM 27 54]))))))) (.seq (.seq (.ops [zM 55 0, zO 56 (.len false (.t 55)), zO 57 (.mov (.c (.int .i64 0)))]) (.block 2 (.loop (.seq (.ops [zO 58 (.sc (.bin .lss 3) [(.t 57), (.t 56)])]) (.seq (.cond (.t 58)
  .skip
  (.exit 2)) (.seq (.block 3 (.seq (.ops [zO 59 (.iaddr 2 (.t 55) (.t 57)), zO 60 (.ld (.t 59) 2 true), zO 12 (.alloc 0 66 [(1, 68, 3, 0)] [(.string ⟨#[]⟩), (.slice none 0 0)]), zU (.st true 2 [(1, 68, 3, 0)] (.t 12) (.t 60))]) (.seq (.ops [zM 62 2, zO 63 (.faddr (.t 12) 0), zO 64 (.ld (.t 63) 1 false), zO 65 (.call 36 [(.t 62), (.t 64)]), zM 61 65, zO 66 (.ext (.t 61) 0), zO 67 (.ext (.t 61) 1), zO 13 (.alloc 0 71 [(2, 82, 3, 0)] [(.string ⟨#[]⟩), (.string ⟨#[]⟩), (.slice none 0 0)]), zU (.st true 3 [(2, 82, 3, 0)] (.t 13) (.t 66)), zM 14 67]) (.seq (.ops [zM 68 14, zO 69 (.sc (.un .not) [(.t 68)])]) (.cond (.t 69)
  (.seq (.ops [zO 6 (.mov (.c (.int .i64 5)))]) .ret)
  .skip))))) (.ops [zO 70 (.sc (.bin .add 3) [(.t 57), (.c (.int .i64 1))]), zM 57 70]))))))) (.seq (.seq (.ops [zM 71 2, zO 72 (.len false (.t 71)), zO 73 (.mov (.c (.int .i64 0)))]) (.block 4 (.loop (.seq (.ops [zO 74 (.sc (.bin .lss 3) [(.t 73), (.t 72)])]) (.seq (.cond (.t 74)
  .skip
  (.exit 4)) (.seq (.block 5 (.seq (.ops [zO 75 (.iaddr 3 (.t 71) (.t 73)), zO 76 (.ld (.t 75) 3 true), zO 16 (.alloc 0 71 [(2, 82, 3, 0)] [(.string ⟨#[]⟩), (.string ⟨#[]⟩), (.slice none 0 0)]), zU (.st true 3 [(2, 82, 3, 0)] (.t 16) (.t 76))]) (.seq (.draw [] [zQ (zM 77 0), zQ (zM 78 0), zQ (zO 79 (.faddr (.t 16) 0)), zQ (zO 80 (.ld (.t 79) 1 false)), zQ (zO 81 (.call 37 [(.t 78), (.t 80)])), zQ (zO 82 (.iaddr 2 (.t 77) (.t 81))), zQ (zO 83 (.faddr (.t 82) 1)), zQ (zO 84 (.ld (.t 83) 1 false)), zQ (zM 85 1), zQ (zM 86 1), zQ (zO 87 (.faddr (.t 16) 1)), zQ (zO 88 (.ld (.t 87) 1 false)), zQ (zO 89 (.call 37 [(.t 86), (.t 88)])), zQ (zO 90 (.iaddr 2 (.t 85) (.t 89))), zQ (zO 91 (.faddr (.t 90) 1)), zQ (zO 92 (.ld (.t 91) 1 false)), zQ (zM 17 84), zQ (zM 18 92)]) (.seq (.seq (.ops [zO 93 (.faddr (.t 16) 2), zO 94 (.ld (.t 93) 1 false), zO 95 (.len false (.t 94)), zM 96 18, zO 97 (.len false (.t 96)), zO 98 (.sc (.bin .neq 3) [(.t 95), (.t 97)])]) (.cond (.t 98)
  (.seq (.ops [zO 6 (.mov (.c (.int .i64 2)))]) .ret)
  .skip)) (.seq (.ops [zO 99 (.faddr (.t 16) 2), zO 100 (.ld (.t 99) 1 false), zO 101 (.len false (.t 100)), zO 102 (.mov (.c (.int .i64 0)))]) (.block 6 (.loop (.seq (.ops [zO 103 (.sc (.bin .lss 3) [(.t 102), (.t 101)])]) (.seq (.cond (.t 103)
  .skip
  (.exit 6)) (.seq (.block 7 (.seq (.ops [zM 104 102, zO 105 (.iaddr 3 (.t 100) (.t 102)), zO 106 (.ld (.t 105) 3 true), zO 20 (.alloc 0 82 [] [(.string ⟨#[]⟩), (.int .i64 0), (.int .i64 0)]), zM 19 104, zU (.st true 3 [] (.t 20) (.t 106))]) (.seq (.draw [] [zQ (zM 107 2), zQ (zO 108 (.ld (.t 20) 3 true)), zQ (zM 109 17), zQ (zM 110 18), zQ (zM 111 19), zQ (zO 112 (.iaddr 3 (.t 110) (.t 111))), zQ (zO 113 (.ld (.t 112) 3 true)), zQ (zO 114 (.call 54 [(.t 107), (.t 108), (.t 109), (.t 113)])), zQ (zM 21 114)]) (.seq (.ops [zM 115 21, zO 116 (.sc (.bin .neq 34) [(.t 115), (.c (.int .i64 0))])]) (.cond (.t 116)
  (.seq (.ops [zM 117 21, zM 6 117]) .ret)
  .skip))))) (.ops [zO 118 (.sc (.bin .add 3) [(.t 102), (.c (.int .i64 1))]), zM 102 118]))))))))))) (.ops [zO 119 (.sc (.bin .add 3) [(.t 73), (.c (.int .i64 1))]), zM 73 119]))))))) (.seq (.ops [zO 6 (.mov (.c (.int .i64 0)))]) .ret))))))) := by kernel_rfl
def f80_k51 (a3 : (List Rule)) (x41 : Int) (n : Nat) (x48 : Rule) (c14k : Int → Option Int) (x57 : Bool) : Option Int := (bif x57 then some 4 else ((sli a3 0 x41).bind fun l61 => ((f78 n l61 x48.fClass).bind fun r63 => (bif r63.2 then some 6 else (c14k (wr .i64 (x41 + 1)))))))
def f80_k171 (x167 : Int) (c106k : Int → Option Int) : Option Int := (c106k (wr .i64 (x167 + 1)))
def f80_l194 (x174 : Rule) (x183 : Form) (n : Nat) (a3 : (List Rule)) (x179 : Form) (k171k : Option Int) : Nat → Int → Option Int
  | 0, _ => none
  | m194 + 1, x211 => (bif (decide (x211 < (len x174.fGives))) then ((gi x174.fGives x211).bind fun x218 => ((gi x183.fCols x211).bind fun x221 => ((f116 n a3 x218 x179.fCols x221).bind fun r223 => (bif (r223 != 0) then some r223 else (f80_l194 x174 x183 n a3 x179 (k171k) m194 (wr .i64 (x211 + 1))))))) else (k171k))
def f80_k102 : Option Int := some 0
def f80_l106 (a3 : (List Rule)) (n : Nat) (a1 : (List Form)) (a2 : (List Form)) (k102k : Option Int) : Nat → Int → Option Int
  | 0, _ => none
  | m106 + 1, x167 => (bif (decide (x167 < (len a3))) then ((gi a3 x167).bind fun x174 => ((f52 n a1 x174.fClass).bind fun r177 => ((gi a1 r177).bind fun x179 => ((f52 n a2 x174.fTo).bind fun r181 => ((gi a2 r181).bind fun x183 => (bif ((len x174.fGives) != (len x183.fCols)) then some 2 else (f80_l194 x174 x183 n a3 x179 (f80_k171 x167 (f80_l106 a3 n a1 a2 (k102k) m106)) n 0))))))) else (k102k))
def f80_k68 (n : Nat) (a3 : (List Rule)) (a1 : (List Form)) (a2 : (List Form)) : Option Int := (f80_l106 a3 n a1 a2 (f80_k102) n 0)
def f80_l72 (a1 : (List Form)) (n : Nat) (a3 : (List Rule)) (k68k : Option Int) : Nat → Int → Option Int
  | 0, _ => none
  | m72 + 1, x87 => (bif (decide (x87 < (len a1))) then ((gi a1 x87).bind fun x94 => ((f78 n a3 x94.fName).bind fun r97 => (bif (!r97.2) then some 5 else (f80_l72 a1 n a3 (k68k) m72 (wr .i64 (x87 + 1)))))) else (k68k))
def f80_k10 (n : Nat) (a1 : (List Form)) (a3 : (List Rule)) (a2 : (List Form)) : Option Int := (f80_l72 a1 n a3 (f80_k68 n a3 a1 a2) n 0)
def f80_l14 (a3 : (List Rule)) (n : Nat) (a1 : (List Form)) (a2 : (List Form)) (k10k : Option Int) : Nat → Int → Option Int
  | 0, _ => none
  | m14 + 1, x41 => (bif (decide (x41 < (len a3))) then ((gi a3 x41).bind fun x48 => ((f52 n a1 x48.fClass).bind fun r52 => (bif (decide (r52 < 0)) then (f80_k51 a3 x41 n x48 (f80_l14 a3 n a1 a2 (k10k) m14) true) else ((f52 n a2 x48.fTo).bind fun r55 => (f80_k51 a3 x41 n x48 (f80_l14 a3 n a1 a2 (k10k) m14) (decide (r55 < 0))))))) else (k10k))
def f80 (n : Nat) (a1 : (List Form)) (a2 : (List Form)) (a3 : (List Rule)) : Option Int := (bif (decide ((len a3) > 24)) then some 3 else (f80_l14 a3 n a1 a2 (f80_k10 n a1 a3 a2) n 0))
def f80_r (r : Int) : AV := (vI r)
theorem p_f80 {n : Nat} {a1 : (List Form)} {a2 : (List Form)} {a3 : (List Rule)} {r : Int} (h : f80 n a1 a2 a3 = some r) : PureSpec Tryz.prog 45 [(vL Form.c a1), (vL Form.c a2), (vL Rule.c a3)] (f80_r r) := by
 rw [f80.eq_1] at h
 refine pure_of hmix ic45 ?_
 refine go_to (mkd (.val undef) 120 0 [(0, (vL Form.c a1)), (1, (vL Form.c a2)), (2, (vL Rule.c a3))]) ?_
 refine s_so fun N4 k4 w4 => ?_
 refine o_r1 [(6, (vI 0))] ?_
 refine o_end (k4 _ ?_)
 refine s_seq fun N5 k5 w5 => ?_
 refine s_so fun N6 k6 w6 => ?_
 refine o_r1 [(22, (vL Rule.c a3))] ?_
 refine o_o (one_len (f := Rule.c) (l := a3)) ?_
 refine o_r1 [(24, (vB (decide ((len a3) > 24))))] ?_
 refine o_end (k6 _ ?_)
 refine i_c [24] h (fun h => ?_) (fun h => ?_)
 · refine s_so fun N9 k9 w9 => ?_
   refine o_r1 [(6, (vI 3))] ?_
   refine o_end (k9 _ ?_)
   exact c_ret (rets [] [(vI 3)] [(vI 3)] h)
 · refine c_skip (k5 _ ?_)
   refine J0 (r := r) ⟨(mkd .any 120 0 [(0, (vL Form.c a1)), (1, (vL Form.c a2)), (2, (vL Rule.c a3))]), []⟩ (f80_k10 n a1 a3 a2) ?_ ?_
   · intro h
     rw [f80_k10.eq_1] at h
     refine J0 (r := r) ⟨(mkd .any 120 0 [(0, (vL Form.c a1)), (1, (vL Form.c a2)), (2, (vL Rule.c a3))]), []⟩ (f80_k68 n a3 a1 a2) ?_ ?_
     · intro h
       rw [f80_k68.eq_1] at h
       refine J0 (r := r) ⟨(mkd .any 120 0 []), []⟩ (f80_k102) ?_ ?_
       · intro h
         rw [f80_k102.eq_1] at h
         refine s_so fun N228 k228 w228 => ?_
         refine o_r1 [(6, (vI 0))] ?_
         refine o_end (k228 _ ?_)
         exact c_ret (rets [] [(vI 0)] [(vI 0)] h)
       · intro N102 w102
         refine s_so fun N103 k103 w103 => ?_
         refine o_r1 [(71, (vL Rule.c a3))] ?_
         refine o_o (one_len (f := Rule.c) (l := a3)) ?_
         refine o_r1 [(73, (vI 0))] ?_
         refine o_end (k103 _ ?_)
         refine c_block fun E105 hE105 hO105 => ?_
         refine W1 (fun (x167 : Int) => ⟨(mkd .any 120 0 [(0, (vL Form.c a1)), (1, (vL Form.c a2)), (2, (vL Rule.c a3)), (71, (vL Rule.c a3)), (72, (vI (len a3))), (73, (vI x167))]), []⟩) (f80_l106 a3 n a1 a2 (f80_k102)) h (wkm [0, 1, 2, 71, 72, 73] wh_nil) (by intros; rw [f80_l106.eq_1]) ?_
         intro m106 x167 h N106 w106
         rw [f80_l106.eq_2] at h
         refine s_so fun N168 k168 w168 => ?_
         refine o_r1 [(74, (vB (decide (x167 < (len a3)))))] ?_
         refine o_end (k168 _ ?_)
         refine s_seq fun N169 k169 w169 => ?_
         refine i_c [74] h (fun h => ?_) (fun h => ?_)
         · refine c_skip (k169 _ ?_)
           refine J0 (r := r) ⟨(mkd .any 120 0 [(0, (vL Form.c a1)), (1, (vL Form.c a2)), (2, (vL Rule.c a3)), (71, (vL Rule.c a3)), (72, (vI (len a3))), (73, (vI x167))]), []⟩ (f80_k171 x167 (f80_l106 a3 n a1 a2 (f80_k102) m106)) ?_ ?_
           · intro h
             rw [f80_k171.eq_1] at h
             refine c_ops ?_
             refine o_r2 [(73, (vI (wr .i64 (x167 + 1)))), (119, (vI (wr .i64 (x167 + 1))))] ?_
             exact o_end (w106 _ _ (wkm [0, 1, 2, 71, 72, 73] wh_nil) h)
           · intro N171 w171
             refine c_block fun E172 hE172 hO172 => ?_
             refine s_so fun N173 k173 w173 => ?_
             refine bnd h fun x174 g175 h => ?_
             refine o_o (one_ia (f := Rule.c) (ki := .i64) g175) ?_
             refine o_h3 [(16, (.ptr 1 0)), (76, (.agg [(vS x174.fClass), (vS x174.fTo), (vL Give.c x174.fGives)]))] [(some (.row 82 3 (List.map Give.c []))), (some (.box 71 [(vS x174.fClass), (vS x174.fTo), (vL Give.c x174.fGives)]))] ?_
             refine o_end (k173 _ ?_)
             refine s_seq fun N176 k176 w176 => ?_
             refine c_draw0 ?_
             refine d_r4 [(77, (vL Form.c a1)), (78, (vL Form.c a1)), (79, (.ptr 1 0)), (80, (vS x174.fClass))] ?_
             refine bnd h fun r177 g178 h => ?_
             refine d_o (one_call (p_f52 g178)) ?_
             refine bnd h fun x179 g180 h => ?_
             refine d_o (one_ia (f := Form.c) (ki := .i64) g180) ?_
             refine d_r6 [(83, (.iptr [(vL Col.c x179.fCols)])), (84, (vL Col.c x179.fCols)), (85, (vL Form.c a2)), (86, (vL Form.c a2)), (87, (.ptr 1 1)), (88, (vS x174.fTo))] ?_
             refine bnd h fun r181 g182 h => ?_
             refine d_o (one_call (p_f52 g182)) ?_
             refine bnd h fun x183 g184 h => ?_
             refine d_o (one_ia (f := Form.c) (ki := .i64) g184) ?_
             refine d_r4 [(17, (vL Col.c x179.fCols)), (18, (vL Col.c x183.fCols)), (91, (.iptr [(vL Col.c x183.fCols)])), (92, (vL Col.c x183.fCols))] ?_
             refine d_end (w176 _ ⟨(mkd .any 120 0 [(0, (vL Form.c a1)), (1, (vL Form.c a2)), (2, (vL Rule.c a3)), (16, (.ptr 1 0)), (17, (vL Col.c x179.fCols)), (18, (vL Col.c x183.fCols)), (71, (vL Rule.c a3)), (72, (vI (len a3))), (73, (vI x167))]), [none, (some (.box 71 [(vS x174.fClass), (vS x174.fTo), (vL Give.c x174.fGives)]))]⟩ (wkm [0, 1, 2, 16, 17, 18, 71, 72, 73] (wh_drop (whk wh_nil))) ?_)
             refine s_seq fun N185 k185 w185 => ?_
             refine s_so fun N186 k186 w186 => ?_
             refine o_r2 [(93, (.ptr 1 2)), (94, (vL Give.c x174.fGives))] ?_
             refine o_o (one_len (f := Give.c) (l := x174.fGives)) ?_
             refine o_r1 [(96, (vL Col.c x183.fCols))] ?_
             refine o_o (one_len (f := Col.c) (l := x183.fCols)) ?_
             refine o_r1 [(98, (vB ((len x174.fGives) != (len x183.fCols))))] ?_
             refine o_end (k186 _ ?_)
             refine i_c [98] h (fun h => ?_) (fun h => ?_)
             · refine s_so fun N190 k190 w190 => ?_
               refine o_r1 [(6, (vI 2))] ?_
               refine o_end (k190 _ ?_)
               exact c_ret (rets [] [(vI 2)] [(vI 2)] h)
             · refine c_skip (k185 _ ?_)
               refine s_so fun N191 k191 w191 => ?_
               refine o_r2 [(99, (.ptr 1 2)), (100, (vL Give.c x174.fGives))] ?_
               refine o_o (one_len (f := Give.c) (l := x174.fGives)) ?_
               refine o_r1 [(102, (vI 0))] ?_
               refine o_end (k191 _ ?_)
               refine c_block fun E193 hE193 hO193 => ?_
               refine W1 (fun (x211 : Int) => ⟨(mkd .any 120 0 [(0, (vL Form.c a1)), (1, (vL Form.c a2)), (2, (vL Rule.c a3)), (17, (vL Col.c x179.fCols)), (18, (vL Col.c x183.fCols)), (71, (vL Rule.c a3)), (72, (vI (len a3))), (73, (vI x167)), (100, (vL Give.c x174.fGives)), (101, (vI (len x174.fGives))), (102, (vI x211))]), []⟩) (f80_l194 x174 x183 n a3 x179 (f80_k171 x167 (f80_l106 a3 n a1 a2 (f80_k102) m106))) h (wkm [0, 1, 2, 17, 18, 71, 72, 73, 100, 101, 102] wh_nil) (by intros; rw [f80_l194.eq_1]) ?_
               intro m194 x211 h N194 w194
               rw [f80_l194.eq_2] at h
               refine s_so fun N212 k212 w212 => ?_
               refine o_r1 [(103, (vB (decide (x211 < (len x174.fGives)))))] ?_
               refine o_end (k212 _ ?_)
               refine s_seq fun N213 k213 w213 => ?_
               refine i_c [103] h (fun h => ?_) (fun h => ?_)
               · refine c_skip (k213 _ ?_)
                 refine s_seq fun N215 k215 w215 => ?_
                 refine c_block fun E216 hE216 hO216 => ?_
                 refine s_so fun N217 k217 w217 => ?_
                 refine o_r1 [(104, (vI x211))] ?_
                 refine bnd h fun x218 g219 h => ?_
                 refine o_o (one_ia (f := Give.c) (ki := .i64) g219) ?_
                 refine o_h4 [(19, (vI x211)), (20, (.ptr 0 0)), (106, (.agg [(vS x218.fFrom), (vI x218.fHow), (vI x218.fN)]))] [(some (.box 82 [(vS x218.fFrom), (vI x218.fHow), (vI x218.fN)]))] ?_
                 refine o_end (k217 _ ?_)
                 refine s_seq fun N220 k220 w220 => ?_
                 refine c_draw0 ?_
                 refine d_r5 [(107, (vL Rule.c a3)), (108, (.agg [(vS x218.fFrom), (vI x218.fHow), (vI x218.fN)])), (109, (vL Col.c x179.fCols)), (110, (vL Col.c x183.fCols)), (111, (vI x211))] ?_
                 refine bnd h fun x221 g222 h => ?_
                 refine d_o (one_ia (f := Col.c) (ki := .i64) g222) ?_
                 refine d_r1 [(113, (.agg [(vS x221.fName), (vI x221.fKind), (vS x221.fClass)]))] ?_
                 refine bnd h fun r223 g224 h => ?_
                 refine d_o (one_call (p_f116 g224)) ?_
                 refine d_r1 [(21, (vI r223))] ?_
                 refine d_end (k220 _ ?_)
                 refine s_so fun N225 k225 w225 => ?_
                 refine o_r2 [(115, (vI r223)), (116, (vB (r223 != 0)))] ?_
                 refine o_end (k225 _ ?_)
                 refine i_c [116] h (fun h => ?_) (fun h => ?_)
                 · refine s_so fun N227 k227 w227 => ?_
                   refine o_r2 [(6, (vI r223)), (117, (vI r223))] ?_
                   refine s_tm (mkd .any 120 0 [(0, (vL Form.c a1)), (1, (vL Form.c a2)), (2, (vL Rule.c a3)), (6, (vI r223)), (17, (vL Col.c x179.fCols)), (18, (vL Col.c x183.fCols)), (19, (vI x211)), (20, (.ptr 0 0)), (21, (vI r223)), (71, (vL Rule.c a3)), (72, (vI (len a3))), (73, (vI x167)), (100, (vL Give.c x174.fGives)), (101, (vI (len x174.fGives))), (102, (vI x211)), (103, (vB true)), (104, (vI x211)), (105, (.iptr [(vS x218.fFrom), (vI x218.fHow), (vI x218.fN)])), (106, (.agg [(vS x218.fFrom), (vI x218.fHow), (vI x218.fN)])), (107, (vL Rule.c a3)), (108, (.agg [(vS x218.fFrom), (vI x218.fHow), (vI x218.fN)])), (109, (vL Col.c x179.fCols)), (110, (vL Col.c x183.fCols)), (111, (vI x211)), (112, (.iptr [(vS x221.fName), (vI x221.fKind), (vS x221.fClass)])), (113, (.agg [(vS x221.fName), (vI x221.fKind), (vS x221.fClass)])), (114, (vI r223)), (115, (vI r223)), (116, (vB true)), (117, (vI r223))]) ?_
                   refine o_end (w227 _ ⟨(mkd .any 120 0 [(6, (vI r223))]), []⟩ (wkm [6] wh_nil) ?_)
                   exact c_ret (rets [] [(vI r223)] [(vI r223)] h)
                 · refine c_skip (w215 _ ⟨(mkd .any 120 0 [(0, (vL Form.c a1)), (1, (vL Form.c a2)), (2, (vL Rule.c a3)), (17, (vL Col.c x179.fCols)), (18, (vL Col.c x183.fCols)), (71, (vL Rule.c a3)), (72, (vI (len a3))), (73, (vI x167)), (100, (vL Give.c x174.fGives)), (101, (vI (len x174.fGives))), (102, (vI x211))]), []⟩ (wkm [0, 1, 2, 17, 18, 71, 72, 73, 100, 101, 102] wh_nil) ?_)
                   refine c_ops ?_
                   refine o_r2 [(102, (vI (wr .i64 (x211 + 1)))), (118, (vI (wr .i64 (x211 + 1))))] ?_
                   exact o_end (w194 _ _ (wkm [0, 1, 2, 17, 18, 71, 72, 73, 100, 101, 102] wh_nil) h)
               · refine c_exit (hE193 _ ?_)
                 exact w171 _ (wkm [0, 1, 2, 71, 72, 73] wh_nil) h
         · refine c_exit (hE105 _ ?_)
           exact w102 _ (wkm [] wh_nil) h
     · intro N68 w68
       refine s_so fun N69 k69 w69 => ?_
       refine o_r1 [(55, (vL Form.c a1))] ?_
       refine o_o (one_len (f := Form.c) (l := a1)) ?_
       refine o_r1 [(57, (vI 0))] ?_
       refine o_end (k69 _ ?_)
       refine c_block fun E71 hE71 hO71 => ?_
       refine W1 (fun (x87 : Int) => ⟨(mkd .any 120 0 [(0, (vL Form.c a1)), (1, (vL Form.c a2)), (2, (vL Rule.c a3)), (55, (vL Form.c a1)), (56, (vI (len a1))), (57, (vI x87))]), []⟩) (f80_l72 a1 n a3 (f80_k68 n a3 a1 a2)) h (wkm [0, 1, 2, 55, 56, 57] wh_nil) (by intros; rw [f80_l72.eq_1]) ?_
       intro m72 x87 h N72 w72
       rw [f80_l72.eq_2] at h
       refine s_so fun N88 k88 w88 => ?_
       refine o_r1 [(58, (vB (decide (x87 < (len a1)))))] ?_
       refine o_end (k88 _ ?_)
       refine s_seq fun N89 k89 w89 => ?_
       refine i_c [58] h (fun h => ?_) (fun h => ?_)
       · refine c_skip (k89 _ ?_)
         refine s_seq fun N91 k91 w91 => ?_
         refine c_block fun E92 hE92 hO92 => ?_
         refine s_so fun N93 k93 w93 => ?_
         refine bnd h fun x94 g95 h => ?_
         refine o_o (one_ia (f := Form.c) (ki := .i64) g95) ?_
         refine o_h3 [(12, (.ptr 1 0)), (60, (.agg [(vS x94.fName), (vL Col.c x94.fCols)]))] [(some (.row 68 3 (List.map Col.c []))), (some (.box 66 [(vS x94.fName), (vL Col.c x94.fCols)]))] ?_
         refine o_end (k93 _ ?_)
         refine s_so fun N96 k96 w96 => ?_
         refine o_r3 [(62, (vL Rule.c a3)), (63, (.ptr 1 0)), (64, (vS x94.fName))] ?_
         refine bnd h fun r97 g98 h => ?_
         refine o_o (one_call (p_f78 g98)) ?_
         refine o_h6 [(13, (.ptr 3 0)), (14, (vB r97.2)), (61, (.tup [(.agg [(vS r97.1.fClass), (vS r97.1.fTo), (vL Give.c r97.1.fGives)]), (vB r97.2)])), (66, (.agg [(vS r97.1.fClass), (vS r97.1.fTo), (vL Give.c r97.1.fGives)])), (67, (vB r97.2))] [(some (.row 68 3 (List.map Col.c []))), (some (.box 66 [(vS x94.fName), (vL Col.c x94.fCols)])), (some (.row 82 3 (List.map Give.c []))), (some (.box 71 [(vS r97.1.fClass), (vS r97.1.fTo), (vL Give.c r97.1.fGives)]))] ?_
         refine o_end (k96 _ ?_)
         refine s_so fun N99 k99 w99 => ?_
         refine o_r2 [(68, (vB r97.2)), (69, (vB (!r97.2)))] ?_
         refine o_end (k99 _ ?_)
         refine i_c [69] h (fun h => ?_) (fun h => ?_)
         · refine s_so fun N101 k101 w101 => ?_
           refine o_r1 [(6, (vI 5))] ?_
           refine o_end (w101 _ ⟨(mkd .any 120 0 [(6, (vI 5))]), []⟩ (wkm [6] wh_nil) ?_)
           exact c_ret (rets [] [(vI 5)] [(vI 5)] h)
         · refine c_skip (k91 _ ?_)
           refine c_ops ?_
           refine o_r2 [(57, (vI (wr .i64 (x87 + 1)))), (70, (vI (wr .i64 (x87 + 1))))] ?_
           exact o_end (w72 _ _ (wkm [0, 1, 2, 55, 56, 57] wh_nil) h)
       · refine c_exit (hE71 _ ?_)
         exact w68 _ (wkm [0, 1, 2] wh_nil) h
   · intro N10 w10
     refine s_so fun N11 k11 w11 => ?_
     refine o_r1 [(25, (vL Rule.c a3))] ?_
     refine o_o (one_len (f := Rule.c) (l := a3)) ?_
     refine o_r1 [(27, (vI 0))] ?_
     refine o_end (k11 _ ?_)
     refine c_block fun E13 hE13 hO13 => ?_
     refine W1 (fun (x41 : Int) => ⟨(mkd .any 120 0 [(0, (vL Form.c a1)), (1, (vL Form.c a2)), (2, (vL Rule.c a3)), (25, (vL Rule.c a3)), (26, (vI (len a3))), (27, (vI x41))]), []⟩) (f80_l14 a3 n a1 a2 (f80_k10 n a1 a3 a2)) h (wkm [0, 1, 2, 25, 26, 27] wh_nil) (by intros; rw [f80_l14.eq_1]) ?_
     intro m14 x41 h N14 w14
     rw [f80_l14.eq_2] at h
     refine s_so fun N42 k42 w42 => ?_
     refine o_r1 [(28, (vB (decide (x41 < (len a3)))))] ?_
     refine o_end (k42 _ ?_)
     refine s_seq fun N43 k43 w43 => ?_
     refine i_c [28] h (fun h => ?_) (fun h => ?_)
     · refine c_skip (k43 _ ?_)
       refine s_seq fun N45 k45 w45 => ?_
       refine c_block fun E46 hE46 hO46 => ?_
       refine s_so fun N47 k47 w47 => ?_
       refine o_r1 [(29, (vI x41))] ?_
       refine bnd h fun x48 g49 h => ?_
       refine o_o (one_ia (f := Rule.c) (ki := .i64) g49) ?_
       refine o_h4 [(7, (vI x41)), (8, (.ptr 1 0)), (31, (.agg [(vS x48.fClass), (vS x48.fTo), (vL Give.c x48.fGives)]))] [(some (.row 82 3 (List.map Give.c []))), (some (.box 71 [(vS x48.fClass), (vS x48.fTo), (vL Give.c x48.fGives)]))] ?_
       refine o_end (k47 _ ?_)
       refine s_seq fun N50 k50 w50 => ?_
       refine J1 (r := r) (fun (x57 : Bool) => ⟨(mkd .any 120 0 [(0, (vL Form.c a1)), (1, (vL Form.c a2)), (2, (vL Rule.c a3)), (7, (vI x41)), (8, (.ptr 1 0)), (25, (vL Rule.c a3)), (26, (vI (len a3))), (27, (vI x41)), (43, (vB x57))]), [none, (some (.box 71 [(vS x48.fClass), (vS x48.fTo), (vL Give.c x48.fGives)]))]⟩) (f80_k51 a3 x41 n x48 (f80_l14 a3 n a1 a2 (f80_k10 n a1 a3 a2) m14)) ?_ ?_
       · intro x57 h
         rw [f80_k51.eq_1] at h
         refine i_c [43] h (fun h => ?_) (fun h => ?_)
         · refine s_so fun N59 k59 w59 => ?_
           refine o_r1 [(6, (vI 4))] ?_
           refine o_end (k59 _ ?_)
           exact c_ret (rets [] [(vI 4)] [(vI 4)] h)
         · refine c_skip (k50 _ ?_)
           refine s_seq fun N60 k60 w60 => ?_
           refine c_draw0 ?_
           refine d_r2 [(45, (vL Rule.c a3)), (46, (vI x41))] ?_
           refine bnd h fun l61 g62 h => ?_
           refine d_o (one_lsl (f := Rule.c) g62 (fun _ => rfl)) ?_
           refine d_r2 [(48, (.ptr 1 0)), (49, (vS x48.fClass))] ?_
           refine bnd h fun r63 g64 h => ?_
           refine d_o (one_call (p_f78 g64)) ?_
           refine d_r3 [(44, (.tup [(.agg [(vS r63.1.fClass), (vS r63.1.fTo), (vL Give.c r63.1.fGives)]), (vB r63.2)])), (51, (.agg [(vS r63.1.fClass), (vS r63.1.fTo), (vL Give.c r63.1.fGives)])), (52, (vB r63.2))] ?_
           refine d_te (.ptr 3 0) [none, (some (.box 71 [(vS x48.fClass), (vS x48.fTo), (vL Give.c x48.fGives)])), (some (.row 82 3 (List.map Give.c []))), (some (.box 71 [(vS (ByteArray.mk #[])), (vS (ByteArray.mk #[])), (.own 2 0)]))] (ra_cat (ra_cat (ra_cat (ra_cat (ra_cat ra_nil (ra_t (ra_t ra_nil))) (ra_o (one_lsl (f := Rule.c) g62 (fun _ => rfl)) ra_nil)) (ra_t (ra_t ra_nil))) (ra_o (one_call (p_f78 g64)) ra_nil)) (ra_t (ra_t (ra_t ra_nil)))) ?_
           refine d_te (.val undef) [none, (some (.box 71 [(vS x48.fClass), (vS x48.fTo), (vL Give.c x48.fGives)])), (some (.row 82 3 (List.map Give.c []))), (some (.box 71 [(vS r63.1.fClass), (vS r63.1.fTo), (vL Give.c r63.1.fGives)]))] (ra_cat (ra_cat (ra_cat (ra_cat (ra_cat ra_nil (ra_s (ra_s ra_nil))) (ra_s ra_nil)) (ra_s (ra_s ra_nil))) (ra_s ra_nil)) (ra_s (ra_s (ra_t ra_nil)))) ?_
           refine d_r1 [(10, (vB r63.2))] ?_
           refine d_end (k60 _ ?_)
           refine s_so fun N65 k65 w65 => ?_
           refine o_r1 [(53, (vB r63.2))] ?_
           refine o_end (k65 _ ?_)
           refine i_c [10, 52, 53] h (fun h => ?_) (fun h => ?_)
           · refine s_so fun N67 k67 w67 => ?_
             refine o_r1 [(6, (vI 6))] ?_
             refine s_tm (mkd .any 120 0 [(0, (vL Form.c a1)), (1, (vL Form.c a2)), (2, (vL Rule.c a3)), (6, (vI 6)), (7, (vI x41)), (8, (.ptr 1 0)), (9, (.ptr 3 0)), (10, (vB true)), (25, (vL Rule.c a3)), (26, (vI (len a3))), (27, (vI x41)), (43, (vB false)), (44, (.tup [(.agg [(vS r63.1.fClass), (vS r63.1.fTo), (vL Give.c r63.1.fGives)]), (vB r63.2)])), (45, (vL Rule.c a3)), (46, (vI x41)), (47, (vL Rule.c l61)), (48, (.ptr 1 0)), (49, (vS x48.fClass)), (50, (.tup [(.agg [(vS r63.1.fClass), (vS r63.1.fTo), (vL Give.c r63.1.fGives)]), (vB r63.2)])), (51, (.agg [(vS r63.1.fClass), (vS r63.1.fTo), (vL Give.c r63.1.fGives)])), (52, (vB true)), (53, (vB true))]) ?_
             refine o_end (w67 _ ⟨(mkd .any 120 0 [(6, (vI 6))]), []⟩ (wkm [6] wh_nil) ?_)
             exact c_ret (rets [] [(vI 6)] [(vI 6)] h)
           · refine c_skip (k45 _ ?_)
             refine c_ops ?_
             refine o_r2 [(27, (vI (wr .i64 (x41 + 1)))), (54, (vI (wr .i64 (x41 + 1))))] ?_
             refine s_tm (mkd .any 120 0 [(0, (vL Form.c a1)), (1, (vL Form.c a2)), (2, (vL Rule.c a3)), (7, (vI x41)), (8, (.ptr 1 0)), (9, (.ptr 3 0)), (10, (vB false)), (25, (vL Rule.c a3)), (26, (vI (len a3))), (27, (vI (wr .i64 (x41 + 1)))), (43, (vB false)), (44, (.tup [(.agg [(vS r63.1.fClass), (vS r63.1.fTo), (vL Give.c r63.1.fGives)]), (vB r63.2)])), (45, (vL Rule.c a3)), (46, (vI x41)), (47, (vL Rule.c l61)), (48, (.ptr 1 0)), (49, (vS x48.fClass)), (50, (.tup [(.agg [(vS r63.1.fClass), (vS r63.1.fTo), (vL Give.c r63.1.fGives)]), (vB r63.2)])), (51, (.agg [(vS r63.1.fClass), (vS r63.1.fTo), (vL Give.c r63.1.fGives)])), (52, (vB false)), (53, (vB false)), (54, (vI (wr .i64 (x41 + 1))))]) ?_
             exact o_end (w14 _ _ (wkm [0, 1, 2, 25, 26, 27] wh_nil) h)
       · intro N51 w51
         refine c_ops ?_
         refine o_r3 [(32, (vL Form.c a1)), (33, (.ptr 1 0)), (34, (vS x48.fClass))] ?_
         refine bnd h fun r52 g53 h => ?_
         refine o_o (one_call (p_f52 g53)) ?_
         refine o_r2 [(36, (vB (decide (r52 < 0)))), (37, (vB (decide (r52 < 0))))] ?_
         refine i_o [36, 37] h (fun h => ?_) (fun h => ?_)
         · refine o_r6 [(38, (.val undef)), (39, (.val undef)), (40, (.val undef)), (41, (.val undef)), (42, (.val undef)), (43, (vB true))] ?_
           exact o_end (w51 _ _ (wkm [0, 1, 2, 7, 8, 25, 26, 27, 43] (wh_drop (whk wh_nil))) h)
         · refine o_r3 [(38, (vL Form.c a2)), (39, (.ptr 1 1)), (40, (vS x48.fTo))] ?_
           refine bnd h fun r55 g56 h => ?_
           refine o_g ?_
           refine o_o (one_call (p_f52 g56)) ?_
           refine o_r2 [(42, (vB (decide (r55 < 0)))), (43, (vB (decide (r55 < 0))))] ?_
           refine s_tm (mkd .any 120 0 [(0, (vL Form.c a1)), (1, (vL Form.c a2)), (2, (vL Rule.c a3)), (7, (vI x41)), (8, (.ptr 1 0)), (25, (vL Rule.c a3)), (26, (vI (len a3))), (27, (vI x41)), (28, (vB true)), (29, (vI x41)), (30, (.iptr [(vS x48.fClass), (vS x48.fTo), (vL Give.c x48.fGives)])), (31, (.agg [(vS x48.fClass), (vS x48.fTo), (vL Give.c x48.fGives)])), (32, (vL Form.c a1)), (33, (.ptr 1 0)), (34, (vS x48.fClass)), (35, (vI r52)), (36, (vB false)), (37, (vB false)), (38, (vL Form.c a2)), (39, (.ptr 1 1)), (40, (vS x48.fTo)), (41, (vI r55)), (42, (vB (decide (r55 < 0)))), (43, (vB (decide (r55 < 0))))]) ?_
           exact o_end (w51 _ _ (wkm [0, 1, 2, 7, 8, 25, 26, 27, 43] (wh_drop (whk wh_nil))) h)
     · refine c_exit (hE13 _ ?_)
       exact w10 _ (wkm [0, 1, 2] wh_nil) h
end Go.Proofs
end
