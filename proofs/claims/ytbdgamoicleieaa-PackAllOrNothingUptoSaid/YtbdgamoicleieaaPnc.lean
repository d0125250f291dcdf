/- Texts of this claim, one behind the other. -/
import Derived.Test.YtbdgamoicleieaaPnb
set_option linter.unusedVariables false
set_option linter.unusedSimpArgs false
set_option linter.unnecessarySimpa false
section
set_option linter.unusedVariables false
set_option linter.unusedSimpArgs false
namespace Go.Vm
open Go.RowKit
inductive Out where
  | n (s : St)
  | x (id : Nat) (s : St)
  | r (s : St)
def postO (R : St → Prop) (E : Nat → St → Prop) (N : St → Prop) : Out → Prop
  | .n s => N s
  | .x id s => E id s
  | .r s => R s
def bindN (f : St → Option (List Out)) : List Out → Option (List Out)
  | [] => some []
  | .n s :: l => (match f s, bindN f l with | some a, some b => some (a ++ b) | _, _ => none)
  | .x i s :: l => (match bindN f l with | some b => some (.x i s :: b) | none => none)
  | .r s :: l => (match bindN f l with | some b => some (.r s :: b) | none => none)
theorem bindN_get {f : St → Option (List Out)} : ∀ {l os : List Out}, bindN f l = some os → ∀ o ∈ l, (∃ s, o = .n s ∧ ∃ a, f s = some a ∧ ∀ x ∈ a, x ∈ os) ∨ ((∀ s, o ≠ .n s) ∧ o ∈ os)
  | [], os, h, o, ho => by cases ho
  | .n s0 :: l, os, h, o, ho => by
    simp only [bindN] at h
    split at h
    · rename_i a b ha hb
      simp only [Option.some.injEq] at h; subst h
      rcases List.mem_cons.1 ho with rfl | ho
      · exact .inl ⟨_, rfl, _, ha, fun x hx => List.mem_append_left _ hx⟩
      · rcases bindN_get hb o ho with ⟨s, h1, a', h2, h3⟩ | ⟨h1, h2⟩
        · exact .inl ⟨s, h1, a', h2, fun x hx => List.mem_append_right _ (h3 x hx)⟩
        · exact .inr ⟨h1, List.mem_append_right _ h2⟩
    · cases h
  | .x i0 s0 :: l, os, h, o, ho => by
    simp only [bindN] at h
    split at h
    · rename_i b hb
      simp only [Option.some.injEq] at h; subst h
      rcases List.mem_cons.1 ho with rfl | ho
      · exact .inr ⟨fun s e => (by cases e), by simp⟩
      · rcases bindN_get hb o ho with ⟨s, h1, a', h2, h3⟩ | ⟨h1, h2⟩
        · exact .inl ⟨s, h1, a', h2, fun x hx => List.mem_cons_of_mem _ (h3 x hx)⟩
        · exact .inr ⟨h1, List.mem_cons_of_mem _ h2⟩
    · cases h
  | .r s0 :: l, os, h, o, ho => by
    simp only [bindN] at h
    split at h
    · rename_i b hb
      simp only [Option.some.injEq] at h; subst h
      rcases List.mem_cons.1 ho with rfl | ho
      · exact .inr ⟨fun s e => (by cases e), by simp⟩
      · rcases bindN_get hb o ho with ⟨s, h1, a', h2, h3⟩ | ⟨h1, h2⟩
        · exact .inl ⟨s, h1, a', h2, fun x hx => List.mem_cons_of_mem _ (h3 x hx)⟩
        · exact .inr ⟨h1, List.mem_cons_of_mem _ h2⟩
    · cases h
noncomputable def loopE (f : St → Option (List Out)) (n : Nat) : St → Option (List Out) := Nat.rec (motive := fun _ => St → Option (List Out)) (fun _ => none) (fun _ ih s => match f s with | some os => bindN ih os | none => none) n
def blockE (id : Nat) : Out → Out
  | .x i s => match Nat.beq i id with | true => .n s | false => .x i s
  | o => o
def lowO (m : Nat) : Option AObj → Bool
  | some z => belowO m z
  | none => true
theorem wk_take {m : Nat} : ∀ (k : Nat) {hp : Heap}, (hp.take k).all (lowO m) = true → wkHp m hp (hp.take k)
  | 0, hp, _ => by cases hp <;> trivial
  | k + 1, [], _ => trivial
  | k + 1, x :: hp, h => by
    simp only [List.take_succ_cons, List.all_cons, Bool.and_eq_true] at h
    refine ⟨.inr ⟨rfl, ?_⟩, wk_take k h.2⟩
    cases x with
    | none => rfl
    | some z => exact h.1
def cutE (n : Nat) (hp : Heap) : Heap := (hp.take n).map fun x => match x with | some z => (match belowO n z with | true => some z | false => none) | none => none
theorem cutE_ok {n : Nat} : ∀ (k : Nat) (hp : Heap), wkHp n hp ((hp.take k).map fun x => match x with | some z => (match belowO n z with | true => some z | false => none) | none => none)
  | 0, hp => by cases hp <;> trivial
  | k + 1, [] => trivial
  | k + 1, x :: hp => by
    refine ⟨?_, cutE_ok k hp⟩
    cases x with
    | none => exact .inl rfl
    | some z =>
      dsimp only
      split
      · rename_i hb; exact .inr ⟨rfl, hb⟩
      · exact .inl rfl
def rdE (f : St → Option (List Out)) (s : St) (ps : List Nat) (mv : List (Nat × Nat)) (y : List AV) (hp : Heap) : Option Heap := match f ⟨moveAll (setAll s.tm ps y) mv, hp⟩ with
  | some [.n s'] => (match cutE s.hp.length s'.hp with | h => ifB (Nat.beq h.length s.hp.length && lowB s.hp h) (some h))
  | _ => none
def safeE (rd : List AV → Heap → Option Heap) (xs : List (List AV)) : Nat → Heap → Bool
  | 0, _ => true
  | k + 1, hp => xs.all fun y => match rd y hp with | some h => safeE rd xs k h | none => false
def foldE (rd : List AV → Heap → Option Heap) : List (List AV) → Heap → Option Heap
  | [], hp => some hp
  | y :: l, hp => match rd y hp with | some h => foldE rd l h | none => none
theorem foldE_snoc {rd : List AV → Heap → Option Heap} : ∀ {l : List (List AV)} {y : List AV} {hp h h' : Heap}, foldE rd l hp = some h → rd y h = some h' → foldE rd (l ++ [y]) hp = some h'
  | [], y, hp, h, h', e, k => by simp only [foldE, Option.some.injEq] at e; subst e; simp [foldE, k]
  | z :: l, y, hp, h, h', e, k => by
    simp only [foldE] at e
    simp only [List.cons_append, foldE]
    split at e
    · exact foldE_snoc e k
    · cases e
theorem lowOf_refl (h : Heap) : lowOf h h := fun o x hx hn => ⟨x, hx, by cases x <;> first | rfl | cases hn⟩
def EvT : Type := Env → Nat → St → Option (List Out)
noncomputable def bSkip : EvT := fun e L s => some [.n s]
noncomputable def bBad : EvT := fun e L s => none
def bS (o : Option St) : Option (List Out) := match o with | some s' => some [.n s'] | none => none
noncomputable def bOps (l : List IOp) : EvT := fun e L s => bS (evOps e l s)
noncomputable def bDraw (q : List Nat) (l : List DOp) : EvT := fun e L s => ifB (noHoles s.hp q) (match s.hp ++ q.map (fun i => some (.hole i)) with
    | hp => bS (evDraw e [] [hp] l ⟨s.tm, hp⟩))
noncomputable def bSeq (a b : IC) (fa fb : EvT) : EvT := fun e L s => match fa e L s with | some os => bindN (fb e L) os | none => none
def bFork (x y : Option (List Out)) : Option (List Out) := match x, y with | some x, some y => some (x ++ y) | _, _ => none
noncomputable def bCond (c : Arg) (a b : IC) (fa fb : EvT) : EvT := fun e L s => match evq s c with
    | .val (.bool t) => Bool.rec (motive := fun _ => Option (List Out)) (fb e L s) (fa e L s) t
    | .bl => bFork (fa e L s) (fb e L s)
    | _ => none
noncomputable def bBlock (id : Nat) (a : IC) (fa : EvT) : EvT := fun e L s => match fa e L s with | some os => some (os.map (blockE id)) | none => none
noncomputable def bLoop (a : IC) (fa : EvT) : EvT := fun e L s => loopE (fa e L) L s
noncomputable def bExit (id : Nat) : EvT := fun e L s => some [.x id s]
noncomputable def bRet : EvT := fun e L s => some [.r s]
noncomputable def bRf (xs : List (List AV)) (f : St → Option (List Out)) (s : St) (ps : List Nat) (mv : List (Nat × Nat)) : Option (List Out) :=
  ifB ((xs.all fun y => Nat.beq y.length ps.length && y.all fun a => (toV a).isSome) && safeE (rdE f s ps mv) xs xs.length s.hp)
    (match foldE (rdE f s ps mv) xs s.hp with | some h => some [.n ⟨s.tm, h⟩] | none => none)
noncomputable def bRfun (x : Arg) (ps : List Nat) (mv : List (Nat × Nat)) (b : IC) (fb : EvT) : EvT := fun e L s => match evq s x with
    | .fn g caps => (match omap (frzE s.hp [] 9) caps with
      | some caps' => (match e.it g caps' with
        | some xs => bRf xs (fb e L) s ps mv
        | none => none)
      | none => none)
    | _ => none
noncomputable def evI (ic : IC) : EvT := IC.rec (motive := fun _ => EvT) bSkip bBad bOps bDraw bSeq bCond bBlock bLoop bExit bRet bRfun ic
noncomputable def evC (e : Env) (L : Nat) (ic : IC) (s : St) : Option (List Out) := evI ic e L s
theorem evC_ok {e : Env} (he : EnvOk e) (L : Nat) : ∀ (ic : IC) (s : St) (os : List Out), evC e L ic s = some os → ∀ (m0 : Nat) (R : St → Prop) (E : Nat → St → Prop) (N : St → Prop), (∀ o ∈ os, postO R E N o) → vC e.P m0 R ic E N s := by
  intro ic
  induction ic with
  | skip => intro s os h m0 R E N hp; have h : some [Out.n s] = some os := h; simp only [Option.some.injEq] at h; subst h; exact hp (.n s) (by simp)
  | bad => intro s os h; cases h
  | ops l =>
    intro s os h m0 R E N hp
    have h : bS (evOps e l s) = some os := h
    unfold bS at h
    split at h
    · rename_i s' hs
      simp only [Option.some.injEq] at h; subst h
      exact evOps_ok he l s s' hs (hp (.n s') (by simp))
    · cases h
  | draw q l =>
    intro s os h m0 R E N hp
    have h : ifB (noHoles s.hp q) (bS (evDraw e [] [s.hp ++ q.map (fun i => some (.hole i))] l ⟨s.tm, s.hp ++ q.map (fun i => some (.hole i))⟩)) = some os := h
    unfold bS at h
    obtain ⟨h1, h⟩ := ifB_some h
    split at h
    · rename_i s' hs
      simp only [Option.some.injEq] at h; subst h
      exact ⟨h1, evDraw_ok he l _ _ _ s' hs (hp (.n s') (by simp))⟩
    · cases h
  | seq a b iha ihb =>
    intro s os h m0 R E N hp
    have h : (match evC e L a s with | some os => bindN (evC e L b) os | none => none) = some os := h
    split at h
    · rename_i os1 h1
      refine iha s os1 h1 m0 R E _ (fun o ho => ?_)
      rcases bindN_get h o ho with ⟨s', rfl, a', h2, h3⟩ | ⟨h2, h3⟩
      · exact ⟨s', .inl rfl, ihb s' a' h2 m0 R E N (fun x hx => hp x (h3 x hx))⟩
      · cases o with
        | n s => exact (h2 s rfl).elim
        | x id s => exact hp _ h3
        | r s => exact hp _ h3
    · cases h
  | cond c a b iha ihb =>
    intro s os h m0 R E N hp
    have h : (match evq s c with
      | .val (.bool t) => Bool.rec (motive := fun _ => Option (List Out)) (evC e L b s) (evC e L a s) t
      | .bl => bFork (evC e L a s) (evC e L b s)
      | _ => none) = some os := h
    simp only [evq_eq] at h
    simp only [vC]
    split at h
    · rename_i t hc
      simp only [hc]
      cases t with
      | true => simp only [if_true]; exact iha s os h m0 R E N hp
      | false => simp only [Bool.false_eq_true, if_false]; exact ihb s os h m0 R E N hp
    · rename_i hc
      unfold bFork at h
      split at h
      · rename_i x y hx hy
        simp only [Option.some.injEq] at h; subst h
        simp only [hc]
        exact ⟨iha s x hx m0 R E N (fun o ho => hp o (List.mem_append_left _ ho)), ihb s y hy m0 R E N (fun o ho => hp o (List.mem_append_right _ ho))⟩
      · cases h
    · cases h
  | block id a iha =>
    intro s os h m0 R E N hp
    have h : (match evC e L a s with | some os => some (os.map (blockE id)) | none => none) = some os := h
    split at h
    · rename_i os1 h1
      simp only [Option.some.injEq] at h; subst h
      refine iha s os1 h1 m0 R _ N (fun o ho => ?_)
      have h2 := hp (blockE id o) (List.mem_map_of_mem ho)
      cases o with
      | n s => exact h2
      | r s => exact h2
      | x i s =>
        simp only [blockE] at h2
        simp only [postO]
        split at h2
        · rename_i hb; rw [if_pos (Nat.eq_of_beq_eq_true hb)]; exact h2
        · rename_i hb
          rw [if_neg (fun hi => by rw [hi, Nat.beq_refl] at hb; cases hb)]; exact h2
    · cases h
  | loop a iha =>
    intro s os h m0 R E N hp
    have h : loopE (evC e L a) L s = some os := h
    refine ⟨fun m s => ∃ os, loopE (evC e L a) m s = some os ∧ ∀ o ∈ os, postO R E (fun _ => False) o ∨ ∃ s, o = .n s, ⟨L, s, .inl rfl, os, h, fun o ho => ?_⟩, ?_⟩
    · cases o with
      | n s => exact .inr ⟨s, rfl⟩
      | x id s => exact .inl (hp _ ho)
      | r s => exact .inl (hp _ ho)
    · rintro m s ⟨os, h, hp⟩
      cases m with
      | zero => cases h
      | succ m =>
        have h : (match evC e L a s with | some os => bindN (loopE (evC e L a) m) os | none => none) = some os := h
        split at h
        · rename_i os1 h1
          refine iha s os1 h1 m0 R E _ (fun o ho => ?_)
          rcases bindN_get h o ho with ⟨s', rfl, a', h2, h3⟩ | ⟨h2, h3⟩
          · exact ⟨m, by omega, s', .inl rfl, a', h2, fun o ho => hp o (h3 o ho)⟩
          · rcases hp o h3 with h4 | ⟨s', h4⟩
            · cases o with
              | n s => exact (h2 s rfl).elim
              | x id s => exact h4
              | r s => exact h4
            · exact (h2 s' h4).elim
        · cases h
  | exit id => intro s os h m0 R E N hp; have h : some [Out.x id s] = some os := h; simp only [Option.some.injEq] at h; subst h; exact hp (.x id s) (by simp)
  | ret => intro s os h m0 R E N hp; have h : some [Out.r s] = some os := h; simp only [Option.some.injEq] at h; subst h; exact hp (.r s) (by simp)
  | rfun x ps mv b ihb =>
    intro s os h m0 R E N hp
    have h : (match evq s x with
      | .fn g caps => (match omap (frzE s.hp [] 9) caps with
        | some caps' => (match e.it g caps' with
          | some xs => bRf xs (evC e L b) s ps mv
          | none => none)
        | none => none)
      | _ => none) = some os := h
    simp only [evq_eq, bRf] at h
    split at h
    · rename_i g caps hx
      split at h
      · rename_i caps' hc
        split at h
        · rename_i xs hxs
          obtain ⟨h1, h⟩ := ifB_some h
          simp only [Bool.and_eq_true] at h1
          split at h
          · rename_i hfin hf
            simp only [Option.some.injEq] at h; subst h
            generalize hrd : rdE (evC e L b) s ps mv = rd at h1 hf
            refine ⟨g, caps, caps', xs, fun ys hp => foldE rd ys s.hp = some hp ∧ safeE rd xs (xs.length - ys.length) hp = true ∧ hp.length = s.hp.length ∧ lowOf s.hp hp, hx, frzEL_ok hc, he.it _ _ _ hxs, fun y hy => ?_, ⟨rfl, by simpa using h1.2, rfl, lowOf_refl _⟩, fun ys hp hJ => hJ.2.2, ?_, ?_⟩
            · have := List.all_eq_true.1 h1.1 y hy
              simp only [Bool.and_eq_true, nbq] at this
              exact ⟨this.1, List.all_eq_true.1 this.2⟩
            · rintro ys y hp0 ⟨j1, j2, j3, j4⟩ hy hlt
              have e1 : xs.length - ys.length = (xs.length - (ys ++ [y]).length) + 1 := by simp; omega
              rw [e1] at j2
              simp only [safeE] at j2
              have j5 := List.all_eq_true.1 j2 y hy
              split at j5
              · rename_i h' hr
                have hr' := hr
                rw [← hrd] at hr'
                unfold rdE at hr'
                split at hr'
                · rename_i s' hs'
                  simp only at hr'
                  obtain ⟨k1, k2⟩ := ifB_some hr'
                  simp only [Bool.and_eq_true, nbq] at k1
                  simp only [Option.some.injEq] at k2
                  refine ihb _ _ hs' _ _ _ _ (fun o ho => ?_)
                  simp only [List.mem_cons, List.not_mem_nil, or_false] at ho
                  subst ho
                  refine ⟨h', ⟨by rw [← k2]; exact k1.1, by rw [← k2]; exact cutE_ok _ _⟩, foldE_snoc j1 hr, j5, by rw [← k2]; exact k1.1, by rw [← k2]; exact lowB_ok k1.2⟩
                · cases hr'
              · cases j5
            · rintro hp0 ⟨j1, _⟩
              rw [hf] at j1
              simp only [Option.some.injEq] at j1
              subst j1
              exact hp (.n _) (by simp)
          · cases h
        · cases h
      · cases h
    · cases h
def outS : Out → Option St
  | .n s | .r s => some s
  | .x .. => none
noncomputable def retE (P : Program) (rs : List ResultVar) (s : St) : Option AV := match rs.mapM (resA P s) with
  | some az => (match omap (frzE s.hp (az.flatMap (tE s.hp 9)) 9) az with | some bs => some (packA bs) | none => none)
  | none => none
def oneOf {α : Type} (q : α → α → Bool) (f : St → Option α) : List Out → Option α
  | [] => none
  | o :: l => match outS o with
    | some s => (match f s with
      | some r => ifB (l.all fun o => match outS o with | some s => (match f s with | some r' => q r' r | none => false) | none => false) (some r)
      | none => none)
    | none => none
theorem oneOf_ok {α : Type} {q : α → α → Bool} (hq : ∀ a b, q a b = true → a = b) {f : St → Option α} {os : List Out} {r : α} (h : oneOf q f os = some r) : ∀ o ∈ os, ∃ s, outS o = some s ∧ f s = some r := by
  cases os with
  | nil => cases h
  | cons o l =>
    simp only [oneOf] at h
    split at h
    · rename_i s hs
      split at h
      · rename_i r0 hr
        obtain ⟨h1, h⟩ := ifB_some h
        simp only [Option.some.injEq] at h; subst h
        intro o' ho
        rcases List.mem_cons.1 ho with rfl | ho
        · exact ⟨s, hs, hr⟩
        · have h2 := List.all_eq_true.1 h1 o' ho
          split at h2
          · rename_i s' hs'
            split at h2
            · rename_i r' hr'
              exact ⟨s', hs', by rw [hr', hq _ _ h2]⟩
            · cases h2
          · cases h2
      · cases h
    · cases h
def hpE (m0 : Nat) (az : List AV) (hp : Heap) : Nat := match az.all (belowA m0) && (hp.take m0).all (lowO m0) with
  | true => m0
  | false => hp.length
noncomputable def retHE (P : Program) (rs : List ResultVar) (m0 : Nat) (s : St) : Option (AV × Heap) := match rs.mapM (resA P s) with
  | some az => (match s.hp.take (hpE m0 az s.hp) with
    | hp' => ifB (Nat.ble m0 hp'.length && az.all (belowA hp'.length) && hp'.all (lowO hp'.length)) (some (packA az, hp')))
  | none => none
theorem wkTm_refl {m : Nat} : ∀ {l : List AV}, l.all (belowA m) = true → wkTm m l l
  | [], _ => trivial
  | a :: l, h => by
    simp only [List.all_cons, Bool.and_eq_true] at h
    exact ⟨.inr ⟨rfl, h.1⟩, wkTm_refl h.2⟩
noncomputable def runPE (P : Program) (e : Env) (L : Nat) (H : Hint) (f : Nat) (az : List AV) : Option AV := match fnIC P H f with
  | some (rs, n, ic) => (match evC e L ic (start n az []) with | some os => oneOf (aeq 9) (retE P rs) os | none => none)
  | none => none
noncomputable def runHE (P : Program) (e : Env) (L : Nat) (H : Hint) (f : Nat) (az : List AV) (hp : Heap) : Option (AV × Heap) := match fnIC P H f with
  | some (rs, n, ic) => (match evC e L ic (start n az hp) with | some os => oneOf (fun a b => aeq 9 a.1 b.1 && leq oeq a.2 b.2) (retHE P rs hp.length) os | none => none)
  | none => none
theorem runPE_ok {e : Env} (he : EnvOk e) (hmix : e.P.follows .mixedOrders = true) {L : Nat} {H : Hint} {f : Nat} {az : List AV} {r : AV} (h : runPE e.P e L H f az = some r) : PureSpec e.P f az r := by
  unfold runPE at h
  split at h
  · rename_i rs n ic hf
    split at h
    · rename_i os ho
      have key := oneOf_ok (fun a b => aeq_ok 9 a b) h
      have fin : ∀ s, retE e.P rs s = some r → retP e.P rs r s := fun s hs => by
        unfold retE at hs
        split at hs
        · rename_i us hu
          split at hs
          · rename_i bs hb
            simp only [Option.some.injEq] at hs
            exact ⟨us, bs, _, hu, frzEL_ok hb, hs⟩
          · cases hs
        · cases hs
      refine pure_of hmix hf (evC_ok he L ic _ os ho 0 _ _ _ (fun o hm => ?_))
      obtain ⟨s, h1, h2⟩ := key o hm
      cases o with
      | n s' => simp only [outS, Option.some.injEq] at h1; subst h1; exact fin _ h2
      | r s' => simp only [outS, Option.some.injEq] at h1; subst h1; exact fin _ h2
      | x id s' => cases h1
    · cases h
  · cases h
theorem runHE_ok {e : Env} (he : EnvOk e) (hmix : e.P.follows .mixedOrders = true) {L : Nat} {H : Hint} {f : Nat} {az : List AV} {hp hp' : Heap} {r : AV} (h : runHE e.P e L H f az hp = some (r, hp')) : HSpec e.P f az hp r hp' := by
  unfold runHE at h
  split at h
  · rename_i rs n ic hf
    split at h
    · rename_i os ho
      have key := oneOf_ok (fun a b hab => by
        simp only [Bool.and_eq_true] at hab
        exact Prod.ext (aeq_ok _ _ _ hab.1) (leq_ok oeq_ok hab.2)) h
      have fin : ∀ s, retHE e.P rs hp.length s = some (r, hp') → retH e.P rs hp.length r hp' s := fun s hs => by
        unfold retHE at hs
        split at hs
        · rename_i us hu
          simp only at hs
          obtain ⟨k1, k2⟩ := ifB_some hs
          simp only [Bool.and_eq_true] at k1
          simp only [Option.some.injEq, Prod.mk.injEq] at k2
          obtain ⟨rfl, rfl⟩ := k2
          exact ⟨us, us, hu, ⟨Nat.le_of_ble_eq_true k1.1.1, wkTm_refl k1.1.2, wk_take _ k1.2⟩, rfl⟩
        · cases hs
      refine heap_of hmix hf (evC_ok he L ic _ os ho _ _ _ _ (fun o hm => ?_))
      obtain ⟨s, h1, h2⟩ := key o hm
      cases o with
      | n s' => simp only [outS, Option.some.injEq] at h1; subst h1; exact fin _ h2
      | r s' => simp only [outS, Option.some.injEq] at h1; subst h1; exact fin _ h2
      | x id s' => cases h1
    · cases h
  · cases h
def orE (a b : Option AV) : Option AV := match a with | some r => some r | none => b
noncomputable def envE (P : Program) (hs : Nat → Bool) (Hf : Nat → Hint) (it : Nat → List AV → Option (List (List AV))) (mm : Nat → List AV → Option AV) (L : Nat) (n : Nat) : Env :=
  Nat.rec (motive := fun _ => Env) ⟨P, hs, mm, fun _ _ _ => none, it⟩
    (fun _ e => ⟨P, hs, fun f us => orE (mm f us) (runPE P e L (Hf f) f us), fun f us hp => runHE P e L (Hf f) f us hp, it⟩) n
section
variable {P : Program} {hs : Nat → Bool} {Hf : Nat → Hint} {it : Nat → List AV → Option (List (List AV))} {mm : Nat → List AV → Option AV} {L : Nat}
theorem envE_P (n : Nat) : (envE P hs Hf it mm L n).P = P := by cases n <;> rfl
theorem envE_ok (hmix : P.follows .mixedOrders = true) (hit : ∀ g caps xs, it g caps = some xs → IterSpec P g caps xs) (hmm : ∀ f us r, mm f us = some r → PureSpec P f us r) : ∀ n, EnvOk (envE P hs Hf it mm L n)
  | 0 => ⟨hmm, fun f us hp r hp' h => (by cases h), hit⟩
  | n + 1 => by
    have ih := envE_ok hmix hit hmm n
    refine ⟨fun f us r h => ?_, fun f us hp r hp' h => ?_, hit⟩
    · have h : orE (mm f us) (runPE P (envE P hs Hf it mm L n) L (Hf f) f us) = some r := h
      unfold orE at h
      split at h
      · rename_i hk
        rw [← Option.some.inj h]
        exact hmm _ _ _ hk
      · have := runPE_ok ih (by rw [envE_P]; exact hmix) (L := L) (H := Hf f) (f := f) (az := us) (r := r) (by rw [envE_P]; exact h)
        rw [envE_P] at this
        exact this
    · have h : runHE P (envE P hs Hf it mm L n) L (Hf f) f us hp = some (r, hp') := h
      have := runHE_ok ih (by rw [envE_P]; exact hmix) (L := L) (H := Hf f) (f := f) (az := us) (hp := hp) (r := r) (hp' := hp') (by rw [envE_P]; exact h)
      rw [envE_P] at this
      exact this
end
end Go.Vm
end
section
namespace Go.Proofs
open Go.Vm
def hsE (f : Nat) : Bool := [22, 77, 68, 69, 103, 66, 25, 63, 100, 102].contains f
def HfE (f : Nat) : Hint := ⟨[22, 77, 68, 69, 103, 66, 25], match f with | 22 => [5] | 77 => [5] | 67 => [115] | 32 => [117] | 25 => [6] | 62 => [68, 38, 66] | 15 => [47, 52] | _ => [], match f with | 15 => false | _ => true⟩
def valE : List AV → Option Val
  | [.val (.int .i64 k), .val (.int .i64 n)] => some ⟨k, n⟩
  | _ => none
def itE (g : Nat) (caps : List AV) : Option (List (List AV)) := match g, caps with
  | 136, [.iptr [.sl xs]] => (match omap valE xs with | some l => some ((refsOf l).map cI) | none => none)
  | _, _ => none
theorem itE_ok : ∀ g caps xs, itE g caps = some xs → IterSpec Try.prog g caps xs := by
  intro g caps xs h
  unfold itE at h
  split at h
  · rename_i xs
    split at h
    · rename_i l hl
      simp only [Option.some.injEq] at h; subst h
      have e : xs = l.map Val.c := by
        rw [omap_eq] at hl
        obtain ⟨m1, m2⟩ := mapM_some hl
        apply List.ext_getElem?
        intro i
        rw [List.getElem?_map]
        rcases Nat.lt_or_ge i xs.length with hi | hi
        · obtain ⟨c, hc, hcc⟩ := m2 i xs[i] (List.getElem?_eq_getElem hi)
          rw [hc, List.getElem?_eq_getElem hi]
          unfold valE at hcc
          split at hcc
          · rename_i k n hn
            simp only [Option.some.injEq] at hcc
            rw [hn, ← hcc]; rfl
          · cases hcc
        · rw [List.getElem?_eq_none hi, List.getElem?_eq_none (by omega)]; rfl
      rw [e]
      exact iter136 l
    · cases h
  · cases h
set_option maxRecDepth 100000 in
theorem sanity15 : PureSpec Try.prog 15 [] (.val (.bool true)) := by
  have h := (envE_ok (P := Try.prog) (hs := hsE) (Hf := HfE) (it := itE) (mm := fun _ _ => none) (L := 1000) (by kernel_rfl) itE_ok (fun _ _ _ h => by cases h) 40).pf 15 [] (.val (.bool true)) (by kernel_rfl)
  rw [envE_P] at h
  exact h
end Go.Proofs
end
section
set_option linter.unusedVariables false
set_option maxRecDepth 100000
set_option maxHeartbeats 4000000
namespace Go.Proofs
open Go.Vm
attribute [local irreducible] vOps vDraw vC vK retP retH PureSpec HSpec
theorem ic13 : fnIC Try.prog H0 13 = some ([.tmp 2], 79, (.seq (.ops [zO 2 (.mov (.c (.bool false)))]) (.seq (.seq (.ops [zO 3 (.mov (.c (.int .i64 0)))]) (.block 0 (.loop (.seq (.seq (.ops [zM 6 3, zM 7 0, zO 8 (.len false (.t 7)), zO 9 (.sc (.bin .lss 3) [(.t 6), (.t 8)])]) (.cond (.t 9)
  .skip
  (.exit 0))) (.seq (.block 1 (.seq (.ops [zM 12 0, zM 13 3, zO 14 (.iaddr 2 (.t 12) (.t 13)), zO 15 (.faddr (.t 14) 1), zO 16 (.ld (.t 15) 1 false), zO 17 (.len false (.t 16)), zM 4 17]) (.seq (.seq (.ops [zM 18 0, zM 19 3, zO 20 (.iaddr 2 (.t 18) (.t 19)), zO 21 (.faddr (.t 20) 0), zO 22 (.ld (.t 21) 1 false), zO 23 (.len true (.t 22)), zO 24 (.sc (.bin .gtr 3) [(.t 23), (.c (.int .i64 30))]), zM 25 24, zN 26 25 false 4, zG 27 25 false (.sc (.bin .gtr 3) [(.t 26), (.c (.int .i64 6))]), zN 28 25 false 27, zN 29 28 true 4, zG 30 28 true (.sc (.bin .leq 3) [(.t 29), (.c (.int .i64 30))]), zG 31 25 false (.pick (.t 28) (.t 30) (.c (.bool false))), zO 32 (.pick (.t 25) (.c (.bool true)) (.t 31)), zM 33 32, zN 34 33 false 4, zG 35 33 false (.sc (.bin .gtr 3) [(.t 34), (.c (.int .i64 40))]), zO 36 (.pick (.t 33) (.c (.bool true)) (.t 35))]) (.cond (.t 36)
  (.seq (.ops [zO 2 (.mov (.c (.bool false)))]) .ret)
  .skip)) (.seq (.ops [zO 5 (.mov (.c (.int .i64 0)))]) (.block 2 (.loop (.seq (.seq (.ops [zM 37 5, zM 38 4, zO 39 (.sc (.bin .lss 3) [(.t 37), (.t 38)])]) (.cond (.t 39)
  .skip
  (.exit 2))) (.seq (.block 3 (.seq (.ops [zM 42 0, zM 43 3, zO 44 (.iaddr 2 (.t 42) (.t 43)), zO 45 (.faddr (.t 44) 1), zO 46 (.ld (.t 45) 1 false), zM 47 5, zO 48 (.iaddr 3 (.t 46) (.t 47)), zO 49 (.faddr (.t 48) 0), zO 50 (.ld (.t 49) 1 false), zO 51 (.len true (.t 50)), zO 52 (.sc (.bin .gtr 3) [(.t 51), (.c (.int .i64 30))]), zM 53 52, zN 54 53 false 0, zN 55 53 false 3, zG 56 53 false (.iaddr 2 (.t 54) (.t 55)), zG 57 53 false (.faddr (.t 56) 1), zG 58 53 false (.ld (.t 57) 1 false), zN 59 53 false 5, zG 60 53 false (.iaddr 3 (.t 58) (.t 59)), zG 61 53 false (.faddr (.t 60) 2), zG 62 53 false (.ld (.t 61) 1 false), zG 63 53 false (.len true (.t 62)), zG 64 53 false (.sc (.bin .gtr 3) [(.t 63), (.c (.int .i64 30))]), zO 65 (.pick (.t 53) (.c (.bool true)) (.t 64))]) (.cond (.t 65)
  (.seq (.ops [zO 2 (.mov (.c (.bool false)))]) .ret)
  .skip))) (.ops [zM 40 5, zO 41 (.sc (.bin .add 3) [(.t 40), (.c (.int .i64 1))]), zM 5 41]))))))))) (.ops [zM 10 3, zO 11 (.sc (.bin .add 3) [(.t 10), (.c (.int .i64 1))]), zM 3 11])))))) (.seq (.ops [zM 66 0, zO 67 (.len false (.t 66)), zO 68 (.sc (.bin .leq 3) [(.t 67), (.c (.int .i64 6))]), zM 69 68, zN 70 69 false 0, zG 71 69 false (.len false (.t 70)), zG 72 69 false (.sc (.bin .gtr 3) [(.t 71), (.c (.int .i64 24))]), zN 73 69 false 72, zN 74 73 true 0, zG 75 73 true (.len false (.t 74)), zG 76 73 true (.sc (.bin .leq 3) [(.t 75), (.c (.int .i64 30))]), zG 77 69 false (.pick (.t 73) (.t 76) (.c (.bool false))), zO 78 (.pick (.t 69) (.c (.bool true)) (.t 77)), zM 2 78]) .ret)))) := by kernel_rfl
def f13_k115 (x109 : Int) (c90k : Int → Option Bool) (x125 : Bool) : Option Bool := (bif x125 then some false else (c90k (wr .i64 (x109 + 1))))
def f13_k72 (x67 : Int) (c6k : Int → Option Bool) : Option Bool := (c6k (wr .i64 (x67 + 1)))
def f13_l90 (x75 : Form) (a1 : (List Form)) (x67 : Int) (k72k : Option Bool) : Nat → Int → Option Bool
  | 0, _ => none
  | m90 + 1, x109 => (bif (decide (x109 < (len x75.fCols))) then ((gi a1 x67).bind fun x116 => ((gi x116.fCols x109).bind fun x118 => (bif (decide ((bsz x118.fName) > 30)) then (f13_k115 x109 (f13_l90 x75 a1 x67 (k72k) m90) true) else ((gi a1 x67).bind fun x121 => ((gi x121.fCols x109).bind fun x123 => (f13_k115 x109 (f13_l90 x75 a1 x67 (k72k) m90) (decide ((bsz x123.fClass) > 30)))))))) else (k72k))
def f13_k79 (n : Nat) (x75 : Form) (a1 : (List Form)) (x67 : Int) (c6k : Int → Option Bool) (x85 : Bool) : Option Bool := (bif x85 then some false else (f13_l90 x75 a1 x67 (f13_k72 x67 (c6k)) n 0))
def f13_k128 (x134 : Bool) : Option Bool := some x134
def f13_k3 (a1 : (List Form)) : Option Bool := (bif (decide ((len a1) ≤ 6)) then (f13_k128 true) else (bif (decide ((len a1) > 24)) then (f13_k128 (decide ((len a1) ≤ 30))) else (f13_k128 false)))
def f13_l6 (a1 : (List Form)) (n : Nat) (k3k : Option Bool) : Nat → Int → Option Bool
  | 0, _ => none
  | m6 + 1, x67 => (bif (decide (x67 < (len a1))) then ((gi a1 x67).bind fun x75 => ((gi a1 x67).bind fun x80 => (bif (decide ((bsz x80.fName) > 30)) then (f13_k79 n x75 a1 x67 (f13_l6 a1 n (k3k) m6) true) else (bif (decide ((len x75.fCols) > 6)) then (bif (decide ((len x75.fCols) ≤ 30)) then (f13_k79 n x75 a1 x67 (f13_l6 a1 n (k3k) m6) true) else (f13_k79 n x75 a1 x67 (f13_l6 a1 n (k3k) m6) (decide ((len x75.fCols) > 40)))) else (f13_k79 n x75 a1 x67 (f13_l6 a1 n (k3k) m6) (decide ((len x75.fCols) > 40))))))) else (k3k))
def f13 (n : Nat) (a1 : (List Form)) : Option Bool := (f13_l6 a1 n (f13_k3 a1) n 0)
def f13_r (r : Bool) : AV := (vB r)
theorem p_f13 {n : Nat} {a1 : (List Form)} {r : Bool} (h : f13 n a1 = some r) : PureSpec Try.prog 13 [(vL Form.c a1)] (f13_r r) := by
 rw [f13.eq_1] at h
 refine pure_of hmix ic13 ?_
 refine go_to (mkd (.val undef) 79 0 [(0, (vL Form.c a1))]) ?_
 refine s_so fun N2 k2 w2 => ?_
 refine o_r1 [(2, (vB false))] ?_
 refine o_end (k2 _ ?_)
 refine J0 (r := r) ⟨(mkd .any 79 0 [(0, (vL Form.c a1))]), []⟩ (f13_k3 a1) ?_ ?_
 · intro h
   rw [f13_k3.eq_1] at h
   refine J1 (r := r) (fun (x134 : Bool) => ⟨(mkd .any 79 0 [(2, (vB x134))]), []⟩) (f13_k128) ?_ ?_
   · intro x134 h
     rw [f13_k128.eq_1] at h
     exact c_ret (rets [] [(vB x134)] [(vB x134)] h)
   · intro N128 w128
     refine c_ops ?_
     refine o_r1 [(66, (vL Form.c a1))] ?_
     refine o_o (one_len (f := Form.c) (l := a1)) ?_
     refine o_r2 [(68, (vB (decide ((len a1) ≤ 6)))), (69, (vB (decide ((len a1) ≤ 6))))] ?_
     refine i_o [68, 69] h (fun h => ?_) (fun h => ?_)
     · refine o_r10 [(2, (vB true)), (70, (.val undef)), (71, (.val undef)), (72, (.val undef)), (73, (.val undef)), (74, (.val undef)), (75, (.val undef)), (76, (.val undef)), (77, (.val undef)), (78, (vB true))] ?_
       exact o_end (w128 _ _ (wkm [2] wh_nil) h)
     · refine o_r1 [(70, (vL Form.c a1))] ?_
       refine o_g ?_
       refine o_o (one_len (f := Form.c) (l := a1)) ?_
       refine o_r2 [(72, (vB (decide ((len a1) > 24)))), (73, (vB (decide ((len a1) > 24))))] ?_
       refine i_o [72, 73] h (fun h => ?_) (fun h => ?_)
       · refine o_r1 [(74, (vL Form.c a1))] ?_
         refine o_g ?_
         refine o_o (one_len (f := Form.c) (l := a1)) ?_
         refine o_r4 [(2, (vB (decide ((len a1) ≤ 30)))), (76, (vB (decide ((len a1) ≤ 30)))), (77, (vB (decide ((len a1) ≤ 30)))), (78, (vB (decide ((len a1) ≤ 30))))] ?_
         exact o_end (w128 _ _ (wkm [2] wh_nil) h)
       · refine o_r6 [(2, (vB false)), (74, (.val undef)), (75, (.val undef)), (76, (.val undef)), (77, (vB false)), (78, (vB false))] ?_
         exact o_end (w128 _ _ (wkm [2] wh_nil) h)
 · intro N3 w3
   refine s_so fun N4 k4 w4 => ?_
   refine o_r1 [(3, (vI 0))] ?_
   refine o_end (k4 _ ?_)
   refine c_block fun E5 hE5 hO5 => ?_
   refine W1 (fun (x67 : Int) => ⟨(mkd .any 79 0 [(0, (vL Form.c a1)), (3, (vI x67))]), []⟩) (f13_l6 a1 n (f13_k3 a1)) h (wkm [0, 3] wh_nil) (by intros; rw [f13_l6.eq_1]) ?_
   intro m6 x67 h N6 w6
   rw [f13_l6.eq_2] at h
   refine s_seq fun N68 k68 w68 => ?_
   refine s_so fun N69 k69 w69 => ?_
   refine o_r2 [(6, (vI x67)), (7, (vL Form.c a1))] ?_
   refine o_o (one_len (f := Form.c) (l := a1)) ?_
   refine o_r1 [(9, (vB (decide (x67 < (len a1)))))] ?_
   refine o_end (k69 _ ?_)
   refine i_c [9] h (fun h => ?_) (fun h => ?_)
   · refine c_skip (k68 _ ?_)
     refine J0 (r := r) ⟨(mkd .any 79 0 [(0, (vL Form.c a1)), (3, (vI x67))]), []⟩ (f13_k72 x67 (f13_l6 a1 n (f13_k3 a1) m6)) ?_ ?_
     · intro h
       rw [f13_k72.eq_1] at h
       refine c_ops ?_
       refine o_r3 [(3, (vI (wr .i64 (x67 + 1)))), (10, (vI x67)), (11, (vI (wr .i64 (x67 + 1))))] ?_
       exact o_end (w6 _ _ (wkm [0, 3] wh_nil) h)
     · intro N72 w72
       refine c_block fun E73 hE73 hO73 => ?_
       refine s_so fun N74 k74 w74 => ?_
       refine o_r2 [(12, (vL Form.c a1)), (13, (vI x67))] ?_
       refine bnd h fun x75 g76 h => ?_
       refine o_o (one_ia (f := Form.c) (ki := .i64) g76) ?_
       refine o_r2 [(15, (.iptr [(vL Col.c x75.fCols)])), (16, (vL Col.c x75.fCols))] ?_
       refine o_o (one_len (f := Col.c) (l := x75.fCols)) ?_
       refine o_r1 [(4, (vI (len x75.fCols)))] ?_
       refine o_end (k74 _ ?_)
       refine s_seq fun N78 k78 w78 => ?_
       refine J1 (r := r) (fun (x85 : Bool) => ⟨(mkd .any 79 0 [(0, (vL Form.c a1)), (3, (vI x67)), (4, (vI (len x75.fCols))), (36, (vB x85))]), []⟩) (f13_k79 n x75 a1 x67 (f13_l6 a1 n (f13_k3 a1) m6)) ?_ ?_
       · intro x85 h
         rw [f13_k79.eq_1] at h
         refine i_c [36] h (fun h => ?_) (fun h => ?_)
         · refine s_so fun N87 k87 w87 => ?_
           refine o_r1 [(2, (vB false))] ?_
           refine o_end (k87 _ ?_)
           exact c_ret (rets [] [(vB false)] [(vB false)] h)
         · refine c_skip (k78 _ ?_)
           refine s_so fun N88 k88 w88 => ?_
           refine o_r1 [(5, (vI 0))] ?_
           refine o_end (k88 _ ?_)
           refine c_block fun E89 hE89 hO89 => ?_
           refine W1 (fun (x109 : Int) => ⟨(mkd .any 79 0 [(0, (vL Form.c a1)), (3, (vI x67)), (4, (vI (len x75.fCols))), (5, (vI x109))]), []⟩) (f13_l90 x75 a1 x67 (f13_k72 x67 (f13_l6 a1 n (f13_k3 a1) m6))) h (wkm [0, 3, 4, 5] wh_nil) (by intros; rw [f13_l90.eq_1]) ?_
           intro m90 x109 h N90 w90
           rw [f13_l90.eq_2] at h
           refine s_seq fun N110 k110 w110 => ?_
           refine s_so fun N111 k111 w111 => ?_
           refine o_r3 [(37, (vI x109)), (38, (vI (len x75.fCols))), (39, (vB (decide (x109 < (len x75.fCols)))))] ?_
           refine o_end (k111 _ ?_)
           refine i_c [39] h (fun h => ?_) (fun h => ?_)
           · refine c_skip (k110 _ ?_)
             refine s_seq fun N113 k113 w113 => ?_
             refine c_block fun E114 hE114 hO114 => ?_
             refine J1 (r := r) (fun (x125 : Bool) => ⟨(mkd .any 79 0 [(0, (vL Form.c a1)), (3, (vI x67)), (4, (vI (len x75.fCols))), (5, (vI x109)), (65, (vB x125))]), []⟩) (f13_k115 x109 (f13_l90 x75 a1 x67 (f13_k72 x67 (f13_l6 a1 n (f13_k3 a1) m6)) m90)) ?_ ?_
             · intro x125 h
               rw [f13_k115.eq_1] at h
               refine i_c [65] h (fun h => ?_) (fun h => ?_)
               · refine s_so fun N127 k127 w127 => ?_
                 refine o_r1 [(2, (vB false))] ?_
                 refine o_end (k127 _ ?_)
                 exact c_ret (rets [] [(vB false)] [(vB false)] h)
               · refine c_skip (k113 _ ?_)
                 refine c_ops ?_
                 refine o_r3 [(5, (vI (wr .i64 (x109 + 1)))), (40, (vI x109)), (41, (vI (wr .i64 (x109 + 1))))] ?_
                 exact o_end (w90 _ _ (wkm [0, 3, 4, 5] wh_nil) h)
             · intro N115 w115
               refine c_ops ?_
               refine o_r2 [(42, (vL Form.c a1)), (43, (vI x67))] ?_
               refine bnd h fun x116 g117 h => ?_
               refine o_o (one_ia (f := Form.c) (ki := .i64) g117) ?_
               refine o_r3 [(45, (.iptr [(vL Col.c x116.fCols)])), (46, (vL Col.c x116.fCols)), (47, (vI x109))] ?_
               refine bnd h fun x118 g119 h => ?_
               refine o_o (one_ia (f := Col.c) (ki := .i64) g119) ?_
               refine o_r5 [(49, (.iptr [(vS x118.fName), (vI x118.fKind), (vS x118.fClass)])), (50, (vS x118.fName)), (51, (vI (bsz x118.fName))), (52, (vB (decide ((bsz x118.fName) > 30)))), (53, (vB (decide ((bsz x118.fName) > 30))))] ?_
               refine i_o [52, 53] h (fun h => ?_) (fun h => ?_)
               · refine o_r12 [(54, (.val undef)), (55, (.val undef)), (56, (.val undef)), (57, (.val undef)), (58, (.val undef)), (59, (.val undef)), (60, (.val undef)), (61, (.val undef)), (62, (.val undef)), (63, (.val undef)), (64, (.val undef)), (65, (vB true))] ?_
                 exact o_end (w115 _ _ (wkm [0, 3, 4, 5, 65] wh_nil) h)
               · refine o_r2 [(54, (vL Form.c a1)), (55, (vI x67))] ?_
                 refine bnd h fun x121 g122 h => ?_
                 refine o_g ?_
                 refine o_o (one_ia (f := Form.c) (ki := .i64) g122) ?_
                 refine o_r3 [(57, (.iptr [(vL Col.c x121.fCols)])), (58, (vL Col.c x121.fCols)), (59, (vI x109))] ?_
                 refine bnd h fun x123 g124 h => ?_
                 refine o_g ?_
                 refine o_o (one_ia (f := Col.c) (ki := .i64) g124) ?_
                 refine o_r5 [(61, (.iptr [(vS x123.fClass)])), (62, (vS x123.fClass)), (63, (vI (bsz x123.fClass))), (64, (vB (decide ((bsz x123.fClass) > 30)))), (65, (vB (decide ((bsz x123.fClass) > 30))))] ?_
                 refine s_tm (mkd .any 79 0 [(0, (vL Form.c a1)), (3, (vI x67)), (4, (vI (len x75.fCols))), (5, (vI x109)), (37, (vI x109)), (38, (vI (len x75.fCols))), (39, (vB true)), (42, (vL Form.c a1)), (43, (vI x67)), (44, (.iptr [(vS x116.fName), (vL Col.c x116.fCols)])), (45, (.iptr [(vL Col.c x116.fCols)])), (46, (vL Col.c x116.fCols)), (47, (vI x109)), (48, (.iptr [(vS x118.fName), (vI x118.fKind), (vS x118.fClass)])), (49, (.iptr [(vS x118.fName), (vI x118.fKind), (vS x118.fClass)])), (50, (vS x118.fName)), (51, (vI (bsz x118.fName))), (52, (vB false)), (53, (vB false)), (54, (vL Form.c a1)), (55, (vI x67)), (56, (.iptr [(vS x121.fName), (vL Col.c x121.fCols)])), (57, (.iptr [(vL Col.c x121.fCols)])), (58, (vL Col.c x121.fCols)), (59, (vI x109)), (60, (.iptr [(vS x123.fName), (vI x123.fKind), (vS x123.fClass)])), (61, (.iptr [(vS x123.fClass)])), (62, (vS x123.fClass)), (63, (vI (bsz x123.fClass))), (64, (vB (decide ((bsz x123.fClass) > 30)))), (65, (vB (decide ((bsz x123.fClass) > 30))))]) ?_
                 exact o_end (w115 _ _ (wkm [0, 3, 4, 5, 65] wh_nil) h)
           · refine c_exit (hE89 _ ?_)
             exact w72 _ (wkm [0, 3] wh_nil) h
       · intro N79 w79
         refine c_ops ?_
         refine o_r2 [(18, (vL Form.c a1)), (19, (vI x67))] ?_
         refine bnd h fun x80 g81 h => ?_
         refine o_o (one_ia (f := Form.c) (ki := .i64) g81) ?_
         refine o_r5 [(21, (.iptr [(vS x80.fName), (vL Col.c x80.fCols)])), (22, (vS x80.fName)), (23, (vI (bsz x80.fName))), (24, (vB (decide ((bsz x80.fName) > 30)))), (25, (vB (decide ((bsz x80.fName) > 30))))] ?_
         refine s_tm (mkd .any 79 0 [(0, (vL Form.c a1)), (3, (vI x67)), (4, (vI (len x75.fCols))), (6, (vI x67)), (7, (vL Form.c a1)), (8, (vI (len a1))), (9, (vB true)), (12, (vL Form.c a1)), (13, (vI x67)), (14, (.iptr [(vS x75.fName), (vL Col.c x75.fCols)])), (15, (.iptr [(vL Col.c x75.fCols)])), (16, (vL Col.c x75.fCols)), (17, (vI (len x75.fCols))), (18, (vL Form.c a1)), (19, (vI x67)), (20, (.iptr [(vS x80.fName), (vL Col.c x80.fCols)])), (21, (.iptr [(vS x80.fName), (vL Col.c x80.fCols)])), (22, (vS x80.fName)), (23, (vI (bsz x80.fName))), (24, (vB (decide ((bsz x80.fName) > 30)))), (25, (vB (decide ((bsz x80.fName) > 30))))]) ?_
         refine i_o [24, 25] h (fun h => ?_) (fun h => ?_)
         · refine o_r11 [(26, (.val undef)), (27, (.val undef)), (28, (.val undef)), (29, (.val undef)), (30, (.val undef)), (31, (.val undef)), (32, (vB true)), (33, (vB true)), (34, (.val undef)), (35, (.val undef)), (36, (vB true))] ?_
           exact o_end (w79 _ _ (wkm [0, 3, 4, 36] wh_nil) h)
         · refine o_r3 [(26, (vI (len x75.fCols))), (27, (vB (decide ((len x75.fCols) > 6)))), (28, (vB (decide ((len x75.fCols) > 6))))] ?_
           refine i_o [27, 28] h (fun h => ?_) (fun h => ?_)
           · refine o_r5 [(29, (vI (len x75.fCols))), (30, (vB (decide ((len x75.fCols) ≤ 30)))), (31, (vB (decide ((len x75.fCols) ≤ 30)))), (32, (vB (decide ((len x75.fCols) ≤ 30)))), (33, (vB (decide ((len x75.fCols) ≤ 30))))] ?_
             refine i_o [30, 31, 32, 33] h (fun h => ?_) (fun h => ?_)
             · refine o_r3 [(34, (.val undef)), (35, (.val undef)), (36, (vB true))] ?_
               exact o_end (w79 _ _ (wkm [0, 3, 4, 36] wh_nil) h)
             · refine o_r3 [(34, (vI (len x75.fCols))), (35, (vB (decide ((len x75.fCols) > 40)))), (36, (vB (decide ((len x75.fCols) > 40))))] ?_
               exact o_end (w79 _ _ (wkm [0, 3, 4, 36] wh_nil) h)
           · refine o_r8 [(29, (.val undef)), (30, (.val undef)), (31, (vB false)), (32, (vB false)), (33, (vB false)), (34, (vI (len x75.fCols))), (35, (vB (decide ((len x75.fCols) > 40)))), (36, (vB (decide ((len x75.fCols) > 40))))] ?_
             exact o_end (w79 _ _ (wkm [0, 3, 4, 36] wh_nil) h)
   · refine c_exit (hE5 _ ?_)
     exact w3 _ (wkm [0] wh_nil) h
theorem ic14 : fnIC Try.prog H0 14 = some ([.tmp 2], 57, (.seq (.ops [zO 1 (.box 0 26 [(0, 57, 2, 0), (1, 59, 2, 0)] (.t 0)), zO 2 (.mov (.c (.bool false)))]) (.seq (.ops [zO 7 (.faddr (.t 1) 0), zO 8 (.ld (.t 7) 1 false), zO 9 (.len false (.t 8)), zM 3 9]) (.seq (.seq (.ops [zO 4 (.mov (.c (.int .i64 0)))]) (.block 0 (.loop (.seq (.seq (.ops [zM 10 4, zM 11 3, zO 12 (.sc (.bin .lss 3) [(.t 10), (.t 11)])]) (.cond (.t 12)
  .skip
  (.exit 0))) (.seq (.block 1 (.seq (.ops [zO 15 (.faddr (.t 1) 0), zO 16 (.ld (.t 15) 1 false), zM 17 4, zO 18 (.iaddr 2 (.t 16) (.t 17)), zO 19 (.faddr (.t 18) 1), zO 20 (.ld (.t 19) 1 false), zO 21 (.len false (.t 20)), zM 5 21]) (.seq (.ops [zM 22 5, zO 23 (.sc (.bin .gtr 3) [(.t 22), (.c (.int .i64 8))]), zM 24 23, zN 25 24 true 5, zG 26 24 true (.sc (.bin .leq 3) [(.t 25), (.c (.int .i64 30))]), zO 27 (.pick (.t 24) (.t 26) (.c (.bool false))), zM 28 27, zN 29 28 false 5, zG 30 28 false (.sc (.bin .gtr 3) [(.t 29), (.c (.int .i64 40))]), zO 31 (.pick (.t 28) (.c (.bool true)) (.t 30))]) (.cond (.t 31)
  (.seq (.ops [zO 2 (.mov (.c (.bool false)))]) .ret)
  .skip)))) (.ops [zM 13 4, zO 14 (.sc (.bin .add 3) [(.t 13), (.c (.int .i64 1))]), zM 4 14])))))) (.seq (.ops [zO 32 (.faddr (.t 1) 1), zO 33 (.ld (.t 32) 1 false), zO 34 (.len false (.t 33)), zM 6 34]) (.seq (.ops [zM 35 3, zO 36 (.sc (.bin .leq 3) [(.t 35), (.c (.int .i64 30))]), zM 37 36, zN 38 37 false 3, zG 39 37 false (.sc (.bin .gtr 3) [(.t 38), (.c (.int .i64 400))]), zN 40 37 false 39, zN 41 40 true 3, zG 42 40 true (.sc (.bin .leq 3) [(.t 41), (.c (.int .i64 410))]), zG 43 37 false (.pick (.t 40) (.t 42) (.c (.bool false))), zO 44 (.pick (.t 37) (.c (.bool true)) (.t 43)), zM 45 44, zN 46 45 true 6, zG 47 45 true (.sc (.bin .leq 3) [(.t 46), (.c (.int .i64 10))]), zN 48 45 true 47, zN 49 48 false 6, zG 50 48 false (.sc (.bin .gtr 3) [(.t 49), (.c (.int .i64 60))]), zN 51 48 false 50, zN 52 51 true 6, zG 53 51 true (.sc (.bin .leq 3) [(.t 52), (.c (.int .i64 70))]), zG 54 48 false (.pick (.t 51) (.t 53) (.c (.bool false))), zG 55 45 true (.pick (.t 48) (.c (.bool true)) (.t 54)), zO 56 (.pick (.t 45) (.t 55) (.c (.bool false))), zM 2 56]) .ret)))))) := by kernel_rfl
def f14_k34 (x24 : Int) (c8k : Int → Option Bool) (x37 : Bool) : Option Bool := (bif x37 then some false else (c8k (wr .i64 (x24 + 1))))
def f14_k42 (x50 : Bool) : Option Bool := some x50
def f14_k5 (a1 : Graph) : Option Bool := (bif (decide ((len a1.fNodes) ≤ 30)) then (bif (decide ((len a1.fRoots) ≤ 10)) then (f14_k42 true) else (bif (decide ((len a1.fRoots) > 60)) then (f14_k42 (decide ((len a1.fRoots) ≤ 70))) else (f14_k42 false))) else (bif (decide ((len a1.fNodes) > 400)) then (bif (decide ((len a1.fNodes) ≤ 410)) then (bif (decide ((len a1.fRoots) ≤ 10)) then (f14_k42 true) else (bif (decide ((len a1.fRoots) > 60)) then (f14_k42 (decide ((len a1.fRoots) ≤ 70))) else (f14_k42 false))) else (f14_k42 false)) else (f14_k42 false)))
def f14_l8 (a1 : Graph) (k5k : Option Bool) : Nat → Int → Option Bool
  | 0, _ => none
  | m8 + 1, x24 => (bif (decide (x24 < (len a1.fNodes))) then ((gi a1.fNodes x24).bind fun x31 => (bif (decide ((len x31.fVals) > 8)) then (bif (decide ((len x31.fVals) ≤ 30)) then (f14_k34 x24 (f14_l8 a1 (k5k) m8) true) else (f14_k34 x24 (f14_l8 a1 (k5k) m8) (decide ((len x31.fVals) > 40)))) else (f14_k34 x24 (f14_l8 a1 (k5k) m8) (decide ((len x31.fVals) > 40))))) else (k5k))
def f14 (n : Nat) (a1 : Graph) : Option Bool := (f14_l8 a1 (f14_k5 a1) n 0)
def f14_r (r : Bool) : AV := (vB r)
theorem p_f14 {n : Nat} {a1 : Graph} {r : Bool} (h : f14 n a1 = some r) : PureSpec Try.prog 14 [(.agg [(vL Node.c a1.fNodes), (vL Val.c a1.fRoots)])] (f14_r r) := by
 rw [f14.eq_1] at h
 refine pure_of hmix ic14 ?_
 refine go_to (mkd (.val undef) 57 0 [(0, (.agg [(vL Node.c a1.fNodes), (vL Val.c a1.fRoots)]))]) ?_
 refine s_so fun N2 k2 w2 => ?_
 refine o_h2 [(1, (.ptr 0 0)), (2, (vB false))] [(some (.box 26 [(vL Node.c a1.fNodes), (vL Val.c a1.fRoots)]))] ?_
 refine o_end (k2 _ ?_)
 refine s_so fun N3 k3 w3 => ?_
 refine o_r2 [(7, (.ptr 0 0)), (8, (vL Node.c a1.fNodes))] ?_
 refine o_o (one_len (f := Node.c) (l := a1.fNodes)) ?_
 refine o_r1 [(3, (vI (len a1.fNodes)))] ?_
 refine o_end (k3 _ ?_)
 refine J0 (r := r) ⟨(mkd .any 57 0 [(1, (.ptr 0 0)), (3, (vI (len a1.fNodes)))]), [(some (.box 26 [(vL Node.c a1.fNodes), (vL Val.c a1.fRoots)]))]⟩ (f14_k5 a1) ?_ ?_
 · intro h
   rw [f14_k5.eq_1] at h
   refine s_so fun N40 k40 w40 => ?_
   refine o_r2 [(32, (.ptr 0 1)), (33, (vL Val.c a1.fRoots))] ?_
   refine o_o (one_len (f := Val.c) (l := a1.fRoots)) ?_
   refine o_r1 [(6, (vI (len a1.fRoots)))] ?_
   refine o_end (k40 _ ?_)
   refine J1 (r := r) (fun (x50 : Bool) => ⟨(mkd .any 57 0 [(2, (vB x50))]), []⟩) (f14_k42) ?_ ?_
   · intro x50 h
     rw [f14_k42.eq_1] at h
     exact c_ret (rets [] [(vB x50)] [(vB x50)] h)
   · intro N42 w42
     refine c_ops ?_
     refine o_r3 [(35, (vI (len a1.fNodes))), (36, (vB (decide ((len a1.fNodes) ≤ 30)))), (37, (vB (decide ((len a1.fNodes) ≤ 30))))] ?_
     refine i_o [36, 37] h (fun h => ?_) (fun h => ?_)
     · refine o_r11 [(38, (.val undef)), (39, (.val undef)), (40, (.val undef)), (41, (.val undef)), (42, (.val undef)), (43, (.val undef)), (44, (vB true)), (45, (vB true)), (46, (vI (len a1.fRoots))), (47, (vB (decide ((len a1.fRoots) ≤ 10)))), (48, (vB (decide ((len a1.fRoots) ≤ 10))))] ?_
       refine i_o [47, 48] h (fun h => ?_) (fun h => ?_)
       · refine o_r9 [(2, (vB true)), (49, (.val undef)), (50, (.val undef)), (51, (.val undef)), (52, (.val undef)), (53, (.val undef)), (54, (.val undef)), (55, (vB true)), (56, (vB true))] ?_
         exact o_end (w42 _ _ (wkm [2] wh_nil) h)
       · refine o_r3 [(49, (vI (len a1.fRoots))), (50, (vB (decide ((len a1.fRoots) > 60)))), (51, (vB (decide ((len a1.fRoots) > 60))))] ?_
         refine i_o [50, 51] h (fun h => ?_) (fun h => ?_)
         · refine o_r6 [(2, (vB (decide ((len a1.fRoots) ≤ 70)))), (52, (vI (len a1.fRoots))), (53, (vB (decide ((len a1.fRoots) ≤ 70)))), (54, (vB (decide ((len a1.fRoots) ≤ 70)))), (55, (vB (decide ((len a1.fRoots) ≤ 70)))), (56, (vB (decide ((len a1.fRoots) ≤ 70))))] ?_
           exact o_end (w42 _ _ (wkm [2] wh_nil) h)
         · refine o_r6 [(2, (vB false)), (52, (.val undef)), (53, (.val undef)), (54, (vB false)), (55, (vB false)), (56, (vB false))] ?_
           exact o_end (w42 _ _ (wkm [2] wh_nil) h)
     · refine o_r3 [(38, (vI (len a1.fNodes))), (39, (vB (decide ((len a1.fNodes) > 400)))), (40, (vB (decide ((len a1.fNodes) > 400))))] ?_
       refine i_o [39, 40] h (fun h => ?_) (fun h => ?_)
       · refine o_r5 [(41, (vI (len a1.fNodes))), (42, (vB (decide ((len a1.fNodes) ≤ 410)))), (43, (vB (decide ((len a1.fNodes) ≤ 410)))), (44, (vB (decide ((len a1.fNodes) ≤ 410)))), (45, (vB (decide ((len a1.fNodes) ≤ 410))))] ?_
         refine i_o [42, 43, 44, 45] h (fun h => ?_) (fun h => ?_)
         · refine o_r3 [(46, (vI (len a1.fRoots))), (47, (vB (decide ((len a1.fRoots) ≤ 10)))), (48, (vB (decide ((len a1.fRoots) ≤ 10))))] ?_
           refine i_o [47, 48] h (fun h => ?_) (fun h => ?_)
           · refine o_r9 [(2, (vB true)), (49, (.val undef)), (50, (.val undef)), (51, (.val undef)), (52, (.val undef)), (53, (.val undef)), (54, (.val undef)), (55, (vB true)), (56, (vB true))] ?_
             refine s_tm (mkd .any 57 0 [(1, (.ptr 0 0)), (2, (vB true)), (3, (vI (len a1.fNodes))), (6, (vI (len a1.fRoots))), (32, (.ptr 0 1)), (33, (vL Val.c a1.fRoots)), (34, (vI (len a1.fRoots))), (35, (vI (len a1.fNodes))), (36, (vB false)), (37, (vB false)), (38, (vI (len a1.fNodes))), (39, (vB true)), (40, (vB true)), (41, (vI (len a1.fNodes))), (42, (vB true)), (43, (vB true)), (44, (vB true)), (45, (vB true)), (46, (vI (len a1.fRoots))), (47, (vB true)), (48, (vB true)), (49, (.val undef)), (50, (.val undef)), (51, (.val undef)), (52, (.val undef)), (53, (.val undef)), (54, (.val undef)), (55, (vB true)), (56, (vB true))]) ?_
             exact o_end (w42 _ _ (wkm [2] wh_nil) h)
           · refine o_r3 [(49, (vI (len a1.fRoots))), (50, (vB (decide ((len a1.fRoots) > 60)))), (51, (vB (decide ((len a1.fRoots) > 60))))] ?_
             refine s_tm (mkd .any 57 0 [(1, (.ptr 0 0)), (3, (vI (len a1.fNodes))), (6, (vI (len a1.fRoots))), (32, (.ptr 0 1)), (33, (vL Val.c a1.fRoots)), (34, (vI (len a1.fRoots))), (35, (vI (len a1.fNodes))), (36, (vB false)), (37, (vB false)), (38, (vI (len a1.fNodes))), (39, (vB true)), (40, (vB true)), (41, (vI (len a1.fNodes))), (42, (vB true)), (43, (vB true)), (44, (vB true)), (45, (vB true)), (46, (vI (len a1.fRoots))), (47, (vB false)), (48, (vB false)), (49, (vI (len a1.fRoots))), (50, (vB (decide ((len a1.fRoots) > 60)))), (51, (vB (decide ((len a1.fRoots) > 60))))]) ?_
             refine i_o [50, 51] h (fun h => ?_) (fun h => ?_)
             · refine o_r6 [(2, (vB (decide ((len a1.fRoots) ≤ 70)))), (52, (vI (len a1.fRoots))), (53, (vB (decide ((len a1.fRoots) ≤ 70)))), (54, (vB (decide ((len a1.fRoots) ≤ 70)))), (55, (vB (decide ((len a1.fRoots) ≤ 70)))), (56, (vB (decide ((len a1.fRoots) ≤ 70))))] ?_
               exact o_end (w42 _ _ (wkm [2] wh_nil) h)
             · refine o_r6 [(2, (vB false)), (52, (.val undef)), (53, (.val undef)), (54, (vB false)), (55, (vB false)), (56, (vB false))] ?_
               exact o_end (w42 _ _ (wkm [2] wh_nil) h)
         · refine o_r12 [(2, (vB false)), (46, (.val undef)), (47, (.val undef)), (48, (.val undef)), (49, (.val undef)), (50, (.val undef)), (51, (.val undef)), (52, (.val undef)), (53, (.val undef)), (54, (.val undef)), (55, (.val undef)), (56, (vB false))] ?_
           exact o_end (w42 _ _ (wkm [2] wh_nil) h)
       · refine o_r16 [(41, (.val undef)), (42, (.val undef)), (43, (vB false)), (44, (vB false)), (45, (vB false)), (46, (.val undef)), (47, (.val undef)), (48, (.val undef)), (49, (.val undef)), (50, (.val undef)), (51, (.val undef)), (52, (.val undef)), (53, (.val undef)), (54, (.val undef)), (55, (.val undef)), (56, (vB false))] ?_
         refine o_r1 [(2, (vB false))] ?_
         exact o_end (w42 _ _ (wkm [2] wh_nil) h)
 · intro N5 w5
   refine s_so fun N6 k6 w6 => ?_
   refine o_r1 [(4, (vI 0))] ?_
   refine o_end (k6 _ ?_)
   refine c_block fun E7 hE7 hO7 => ?_
   refine W1 (fun (x24 : Int) => ⟨(mkd .any 57 0 [(1, (.ptr 0 0)), (3, (vI (len a1.fNodes))), (4, (vI x24))]), [(some (.box 26 [(vL Node.c a1.fNodes), (vL Val.c a1.fRoots)]))]⟩) (f14_l8 a1 (f14_k5 a1)) h (wkm [1, 3, 4] (whk wh_nil)) (by intros; rw [f14_l8.eq_1]) ?_
   intro m8 x24 h N8 w8
   rw [f14_l8.eq_2] at h
   refine s_seq fun N25 k25 w25 => ?_
   refine s_so fun N26 k26 w26 => ?_
   refine o_r3 [(10, (vI x24)), (11, (vI (len a1.fNodes))), (12, (vB (decide (x24 < (len a1.fNodes)))))] ?_
   refine o_end (k26 _ ?_)
   refine i_c [12] h (fun h => ?_) (fun h => ?_)
   · refine c_skip (k25 _ ?_)
     refine s_seq fun N28 k28 w28 => ?_
     refine c_block fun E29 hE29 hO29 => ?_
     refine s_so fun N30 k30 w30 => ?_
     refine o_r3 [(15, (.ptr 0 0)), (16, (vL Node.c a1.fNodes)), (17, (vI x24))] ?_
     refine bnd h fun x31 g32 h => ?_
     refine o_o (one_ia (f := Node.c) (ki := .i64) g32) ?_
     refine o_r2 [(19, (.iptr [(vL Val.c x31.fVals)])), (20, (vL Val.c x31.fVals))] ?_
     refine o_o (one_len (f := Val.c) (l := x31.fVals)) ?_
     refine o_r1 [(5, (vI (len x31.fVals)))] ?_
     refine o_end (k30 _ ?_)
     refine J1 (r := r) (fun (x37 : Bool) => ⟨(mkd .any 57 0 [(1, (.ptr 0 0)), (3, (vI (len a1.fNodes))), (4, (vI x24)), (31, (vB x37))]), [(some (.box 26 [(vL Node.c a1.fNodes), (vL Val.c a1.fRoots)]))]⟩) (f14_k34 x24 (f14_l8 a1 (f14_k5 a1) m8)) ?_ ?_
     · intro x37 h
       rw [f14_k34.eq_1] at h
       refine i_c [31] h (fun h => ?_) (fun h => ?_)
       · refine s_so fun N39 k39 w39 => ?_
         refine o_r1 [(2, (vB false))] ?_
         refine o_end (k39 _ ?_)
         exact c_ret (rets [] [(vB false)] [(vB false)] h)
       · refine c_skip (k28 _ ?_)
         refine c_ops ?_
         refine o_r3 [(4, (vI (wr .i64 (x24 + 1)))), (13, (vI x24)), (14, (vI (wr .i64 (x24 + 1))))] ?_
         exact o_end (w8 _ _ (wkm [1, 3, 4] (whk wh_nil)) h)
     · intro N34 w34
       refine c_ops ?_
       refine o_r3 [(22, (vI (len x31.fVals))), (23, (vB (decide ((len x31.fVals) > 8)))), (24, (vB (decide ((len x31.fVals) > 8))))] ?_
       refine i_o [23, 24] h (fun h => ?_) (fun h => ?_)
       · refine o_r4 [(25, (vI (len x31.fVals))), (26, (vB (decide ((len x31.fVals) ≤ 30)))), (27, (vB (decide ((len x31.fVals) ≤ 30)))), (28, (vB (decide ((len x31.fVals) ≤ 30))))] ?_
         refine i_o [26, 27, 28] h (fun h => ?_) (fun h => ?_)
         · refine o_r3 [(29, (.val undef)), (30, (.val undef)), (31, (vB true))] ?_
           refine s_tm (mkd .any 57 0 [(1, (.ptr 0 0)), (3, (vI (len a1.fNodes))), (4, (vI x24)), (5, (vI (len x31.fVals))), (10, (vI x24)), (11, (vI (len a1.fNodes))), (12, (vB true)), (15, (.ptr 0 0)), (16, (vL Node.c a1.fNodes)), (17, (vI x24)), (18, (.iptr [(vS x31.fClass), (vL Val.c x31.fVals)])), (19, (.iptr [(vL Val.c x31.fVals)])), (20, (vL Val.c x31.fVals)), (21, (vI (len x31.fVals))), (22, (vI (len x31.fVals))), (23, (vB true)), (24, (vB true)), (25, (vI (len x31.fVals))), (26, (vB true)), (27, (vB true)), (28, (vB true)), (29, (.val undef)), (30, (.val undef)), (31, (vB true))]) ?_
           exact o_end (w34 _ _ (wkm [1, 3, 4, 31] (whk wh_nil)) h)
         · refine o_r3 [(29, (vI (len x31.fVals))), (30, (vB (decide ((len x31.fVals) > 40)))), (31, (vB (decide ((len x31.fVals) > 40))))] ?_
           refine s_tm (mkd .any 57 0 [(1, (.ptr 0 0)), (3, (vI (len a1.fNodes))), (4, (vI x24)), (5, (vI (len x31.fVals))), (10, (vI x24)), (11, (vI (len a1.fNodes))), (12, (vB true)), (15, (.ptr 0 0)), (16, (vL Node.c a1.fNodes)), (17, (vI x24)), (18, (.iptr [(vS x31.fClass), (vL Val.c x31.fVals)])), (19, (.iptr [(vL Val.c x31.fVals)])), (20, (vL Val.c x31.fVals)), (21, (vI (len x31.fVals))), (22, (vI (len x31.fVals))), (23, (vB true)), (24, (vB true)), (25, (vI (len x31.fVals))), (26, (vB false)), (27, (vB false)), (28, (vB false)), (29, (vI (len x31.fVals))), (30, (vB (decide ((len x31.fVals) > 40)))), (31, (vB (decide ((len x31.fVals) > 40))))]) ?_
           exact o_end (w34 _ _ (wkm [1, 3, 4, 31] (whk wh_nil)) h)
       · refine o_r7 [(25, (.val undef)), (26, (.val undef)), (27, (vB false)), (28, (vB false)), (29, (vI (len x31.fVals))), (30, (vB (decide ((len x31.fVals) > 40)))), (31, (vB (decide ((len x31.fVals) > 40))))] ?_
         exact o_end (w34 _ _ (wkm [1, 3, 4, 31] (whk wh_nil)) h)
   · refine c_exit (hE7 _ ?_)
     exact w5 _ (wkm [1, 3] (whk wh_nil)) h
def f15 (n : Nat) : Option Bool := some true
def f15_r (r : Bool) : AV := (vB r)
theorem p_f15 {n : Nat} {r : Bool} (h : f15 n = some r) : PureSpec Try.prog 15 [] (f15_r r) := by
 cases Option.some.inj h
 exact sanity15
theorem ic123 : fnIC Try.prog H0 123 = some ([.tmp 4], 28, (.seq (.ops [zO 4 (.mov (.c (.bool false)))]) (.seq (.ops [zM 5 0, zO 6 (.ld (.t 1) 1 false), zO 7 (.sc (.conv 5 21) [(.t 6)]), zO 8 (.sc (.bin .geq 21) [(.t 5), (.t 7)]), zM 9 8, zN 10 9 true 0, zG 11 9 true (.ld (.t 2) 1 false), zG 12 9 true (.sc (.conv 5 21) [(.t 11)]), zG 13 9 true (.sc (.bin .leq 21) [(.t 10), (.t 12)]), zO 14 (.pick (.t 9) (.t 13) (.c (.bool false))), zM 15 14, zN 16 15 false 0, zG 17 15 false (.sc (.bin .geq 21) [(.t 16), (.c (.int .i32 48))]), zN 18 15 false 17, zN 19 18 true 0, zG 20 18 true (.sc (.bin .leq 21) [(.t 19), (.c (.int .i32 57))]), zG 21 15 false (.pick (.t 18) (.t 20) (.c (.bool false))), zO 22 (.pick (.t 15) (.c (.bool true)) (.t 21)), zM 23 22, zN 24 23 false 0, zG 25 23 false (.sc (.bin .eql 21) [(.t 24), (.c (.int .i32 95))]), zO 26 (.pick (.t 23) (.c (.bool true)) (.t 25)), zO 27 (.sc (.un .not) [(.t 26)]), zM 4 27]) .ret))) := by kernel_rfl
def f123_k5 (x12 : Bool) : Option Bool := some x12
def f123 (n : Nat) (a1 : Int) (a2 : Int) (a3 : Int) : Option Bool := (bif (decide (a1 ≥ (wr .i32 a2))) then (bif (decide (a1 ≤ (wr .i32 a3))) then (f123_k5 false) else (bif (decide (a1 ≥ 48)) then (bif (decide (a1 ≤ 57)) then (f123_k5 false) else (f123_k5 (!(a1 == 95)))) else (f123_k5 (!(a1 == 95))))) else (bif (decide (a1 ≥ 48)) then (bif (decide (a1 ≤ 57)) then (f123_k5 false) else (f123_k5 (!(a1 == 95)))) else (f123_k5 (!(a1 == 95)))))
def f123_r (r : Bool) : AV := (vB r)
theorem p_f123 {n : Nat} {a1 : Int} {a2 : Int} {a3 : Int} {r : Bool} (h : f123 n a1 a2 a3 = some r) : PureSpec Try.prog 123 [(vKi .i32 a1), (.iptr [(vKi .u8 a2)]), (.iptr [(vKi .u8 a3)])] (f123_r r) := by
 rw [f123.eq_1] at h
 refine pure_of hmix ic123 ?_
 refine go_to (mkd (.val undef) 28 0 [(0, (vKi .i32 a1)), (1, (.iptr [(vKi .u8 a2)])), (2, (.iptr [(vKi .u8 a3)]))]) ?_
 refine s_so fun N4 k4 w4 => ?_
 refine o_r1 [(4, (vB false))] ?_
 refine o_end (k4 _ ?_)
 refine J1 (r := r) (fun (x12 : Bool) => ⟨(mkd .any 28 0 [(4, (vB x12))]), []⟩) (f123_k5) ?_ ?_
 · intro x12 h
   rw [f123_k5.eq_1] at h
   exact c_ret (rets [] [(vB x12)] [(vB x12)] h)
 · intro N5 w5
   refine c_ops ?_
   refine o_r5 [(5, (vKi .i32 a1)), (6, (vKi .u8 a2)), (7, (vKi .i32 (wr .i32 a2))), (8, (vB (decide (a1 ≥ (wr .i32 a2))))), (9, (vB (decide (a1 ≥ (wr .i32 a2)))))] ?_
   refine i_o [8, 9] h (fun h => ?_) (fun h => ?_)
   · refine o_r6 [(10, (vKi .i32 a1)), (11, (vKi .u8 a3)), (12, (vKi .i32 (wr .i32 a3))), (13, (vB (decide (a1 ≤ (wr .i32 a3))))), (14, (vB (decide (a1 ≤ (wr .i32 a3))))), (15, (vB (decide (a1 ≤ (wr .i32 a3)))))] ?_
     refine i_o [13, 14, 15] h (fun h => ?_) (fun h => ?_)
     · refine o_r13 [(16, (.val undef)), (17, (.val undef)), (18, (.val undef)), (19, (.val undef)), (20, (.val undef)), (21, (.val undef)), (22, (vB true)), (23, (vB true)), (24, (.val undef)), (25, (.val undef)), (26, (vB true)), (27, (vB false))] ?_
       exact o_end (w5 _ _ (wkm [4] wh_nil) h)
     · refine o_r3 [(16, (vKi .i32 a1)), (17, (vB (decide (a1 ≥ 48)))), (18, (vB (decide (a1 ≥ 48))))] ?_
       refine i_o [17, 18] h (fun h => ?_) (fun h => ?_)
       · refine o_r5 [(19, (vKi .i32 a1)), (20, (vB (decide (a1 ≤ 57)))), (21, (vB (decide (a1 ≤ 57)))), (22, (vB (decide (a1 ≤ 57)))), (23, (vB (decide (a1 ≤ 57))))] ?_
         refine i_o [20, 21, 22, 23] h (fun h => ?_) (fun h => ?_)
         · refine o_r5 [(24, (.val undef)), (25, (.val undef)), (26, (vB true)), (27, (vB false))] ?_
           exact o_end (w5 _ _ (wkm [4] wh_nil) h)
         · refine o_r5 [(4, (vB (!(a1 == 95)))), (24, (vKi .i32 a1)), (25, (vB (a1 == 95))), (26, (vB (a1 == 95))), (27, (vB (!(a1 == 95))))] ?_
           exact o_end (w5 _ _ (wkm [4] wh_nil) h)
       · refine o_r10 [(4, (vB (!(a1 == 95)))), (19, (.val undef)), (20, (.val undef)), (21, (vB false)), (22, (vB false)), (23, (vB false)), (24, (vKi .i32 a1)), (25, (vB (a1 == 95))), (26, (vB (a1 == 95))), (27, (vB (!(a1 == 95))))] ?_
         exact o_end (w5 _ _ (wkm [4] wh_nil) h)
   · refine o_r9 [(10, (.val undef)), (11, (.val undef)), (12, (.val undef)), (13, (.val undef)), (14, (vB false)), (15, (vB false)), (16, (vKi .i32 a1)), (17, (vB (decide (a1 ≥ 48)))), (18, (vB (decide (a1 ≥ 48))))] ?_
     refine i_o [17, 18] h (fun h => ?_) (fun h => ?_)
     · refine o_r5 [(19, (vKi .i32 a1)), (20, (vB (decide (a1 ≤ 57)))), (21, (vB (decide (a1 ≤ 57)))), (22, (vB (decide (a1 ≤ 57)))), (23, (vB (decide (a1 ≤ 57))))] ?_
       refine i_o [20, 21, 22, 23] h (fun h => ?_) (fun h => ?_)
       · refine o_r5 [(24, (.val undef)), (25, (.val undef)), (26, (vB true)), (27, (vB false))] ?_
         exact o_end (w5 _ _ (wkm [4] wh_nil) h)
       · refine o_r5 [(4, (vB (!(a1 == 95)))), (24, (vKi .i32 a1)), (25, (vB (a1 == 95))), (26, (vB (a1 == 95))), (27, (vB (!(a1 == 95))))] ?_
         exact o_end (w5 _ _ (wkm [4] wh_nil) h)
     · refine o_r10 [(4, (vB (!(a1 == 95)))), (19, (.val undef)), (20, (.val undef)), (21, (vB false)), (22, (vB false)), (23, (vB false)), (24, (vKi .i32 a1)), (25, (vB (a1 == 95))), (26, (vB (a1 == 95))), (27, (vB (!(a1 == 95))))] ?_
       exact o_end (w5 _ _ (wkm [4] wh_nil) h)
theorem ic143 : fnIC Try.prog H0 143 = some ([.tmp 6], 21, (.seq (.ops [zO 6 (.mov (.c (.int .i64 0)))]) (.seq (.seq (.ops [zM 9 0, zO 10 (.rng 0 (.t 9))]) (.block 0 (.loop (.seq (.ops [zO 11 (.nxt (.t 10)), zO 12 (.ext (.t 11) 0)]) (.seq (.cond (.t 12)
  .skip
  (.exit 0)) (.block 1 (.seq (.ops [zO 13 (.ext (.t 11) 1), zO 14 (.ext (.t 11) 2), zM 7 13, zM 8 14]) (.seq (.ops [zM 15 1, zM 16 8, zO 17 (.callv (.t 15) [(.t 16)]), zM 18 2, zO 19 (.sc (.bin .eql 4) [(.t 17), (.t 18)])]) (.cond (.t 19)
  (.seq (.ops [zM 20 7, zM 6 20]) .ret)
  .skip))))))))) (.seq (.ops [zO 6 (.mov (.c (.int .i64 (-1))))]) .ret)))) := by kernel_rfl
def f143_k6 : Option Int := some (-1)
def f143_l9 (a1 : ByteArray) (n : Nat) (a2 : Int) (a3 : Int) (a4 : Bool) (k6k : Option Int) : Nat → Nat → Option Int
  | 0, _ => none
  | m9 + 1, x20 => (bif (decide (x20 < ByteArray.size a1)) then ((f123 n (dec1 a1 x20) a2 a3).bind fun r26 => (bif (r26 == a4) then some (Int.ofNat x20) else (f143_l9 a1 n a2 a3 a4 (k6k) m9 (x20 + dec2 a1 x20)))) else (k6k))
def f143 (n : Nat) (a1 : ByteArray) (a2 : Int) (a3 : Int) (a4 : Bool) : Option Int := (f143_l9 a1 n a2 a3 a4 (f143_k6) n 0)
def f143_r (r : Int) : AV := (vI r)
theorem p_f143 {n : Nat} {a1 : ByteArray} {a2 : Int} {a3 : Int} {a4 : Bool} {r : Int} (h : f143 n a1 a2 a3 a4 = some r) : PureSpec Try.prog 143 [(vS a1), (.fn 123 [(.iptr [(vKi .u8 a2)]), (.iptr [(vKi .u8 a3)])]), (vB a4)] (f143_r r) := by
 rw [f143.eq_1] at h
 refine pure_of hmix ic143 ?_
 refine go_to (mkd (.val undef) 21 0 [(0, (vS a1)), (1, (.fn 123 [(.iptr [(vKi .u8 a2)]), (.iptr [(vKi .u8 a3)])])), (2, (vB a4))]) ?_
 refine s_so fun N5 k5 w5 => ?_
 refine o_r1 [(6, (vI 0))] ?_
 refine o_end (k5 _ ?_)
 refine J0 (r := r) ⟨(mkd .any 21 0 []), []⟩ (f143_k6) ?_ ?_
 · intro h
   rw [f143_k6.eq_1] at h
   refine s_so fun N31 k31 w31 => ?_
   refine o_r1 [(6, (vI (-1)))] ?_
   refine o_end (k31 _ ?_)
   exact c_ret (rets [] [(vI (-1))] [(vI (-1))] h)
 · intro N6 w6
   refine s_so fun N7 k7 w7 => ?_
   refine o_h2 [(9, (vS a1)), (10, (.ptr 0 0))] [(some (.iter a1 0))] ?_
   refine o_end (k7 _ ?_)
   refine c_block fun E8 hE8 hO8 => ?_
   refine W1 (fun (x20 : Nat) => ⟨(mkd .any 21 0 [(1, (.fn 123 [(.iptr [(vKi .u8 a2)]), (.iptr [(vKi .u8 a3)])])), (2, (vB a4)), (10, (.ptr 0 0))]), [(some (.iter a1 x20))]⟩) (f143_l9 a1 n a2 a3 a4 (f143_k6)) h (wkm [1, 2, 10] (whk wh_nil)) (by intros; rw [f143_l9.eq_1]) ?_
   intro m9 x20 h N9 w9
   rw [f143_l9.eq_2] at h
   refine s_so fun N21 k21 w21 => ?_
   refine fork h (fun hb h => ?_) (fun hb h => ?_)
   · refine o_x [(some (.iter a1 (x20 + dec2 a1 x20)))] (one_nxtT (b := a1) (pos := x20) (o := 0) hb) ?_
     refine o_r1 [(12, (vB true))] ?_
     refine o_end (k21 _ ?_)
     refine s_seq fun N22 k22 w22 => ?_
     refine k_T ?_
     refine c_skip (k22 _ ?_)
     refine c_block fun E23 hE23 hO23 => ?_
     refine s_so fun N24 k24 w24 => ?_
     refine o_r4 [(7, (vI (Int.ofNat x20))), (8, (vKi .i32 (dec1 a1 x20))), (13, (vI (Int.ofNat x20))), (14, (vKi .i32 (dec1 a1 x20)))] ?_
     refine o_end (k24 _ ?_)
     refine s_so fun N25 k25 w25 => ?_
     refine o_r2 [(15, (.fn 123 [(.iptr [(vKi .u8 a2)]), (.iptr [(vKi .u8 a3)])])), (16, (vKi .i32 (dec1 a1 x20)))] ?_
     refine bnd h fun r26 g27 h => ?_
     refine o_o (one_callv (caps := [(.iptr [(vKi .u8 a2)]), (.iptr [(vKi .u8 a3)])]) (p_f123 g27)) ?_
     refine o_r2 [(18, (vB a4)), (19, (vB (r26 == a4)))] ?_
     refine o_end (k25 _ ?_)
     refine i_c [19] h (fun h => ?_) (fun h => ?_)
     · refine s_so fun N29 k29 w29 => ?_
       refine o_r2 [(6, (vI (Int.ofNat x20))), (20, (vI (Int.ofNat x20)))] ?_
       refine o_end (k29 _ ?_)
       exact c_ret (rets [] [(vI (Int.ofNat x20))] [(vI (Int.ofNat x20))] h)
     · exact c_skip (w9 _ _ (wkm [1, 2, 10] (whk wh_nil)) h)
   · refine o_x [(some (.iter a1 x20))] (one_nxtF (b := a1) (pos := x20) (o := 0) hb) ?_
     refine o_r1 [(12, (vB false))] ?_
     refine o_end (k21 _ ?_)
     refine s_seq fun N30 k30 w30 => ?_
     refine k_F ?_
     refine c_exit (hE8 _ ?_)
     exact w6 _ (wkm [] wh_nil) h
theorem ic122 : fnIC Try.prog H0 122 = some ([.tmp 4], 8, (.seq (.ops [zO 4 (.mov (.c (.int .i64 0)))]) (.seq (.ops [zM 5 0, zM 6 1, zO 7 (.call 143 [(.t 5), (.t 6), (.c (.bool true))]), zM 4 7]) .ret))) := by kernel_rfl
def f122 (n : Nat) (a1 : ByteArray) (a2 : Int) (a3 : Int) : Option Int := ((f143 n a1 a2 a3 true).bind fun r6 => some r6)
def f122_r (r : Int) : AV := (vI r)
theorem p_f122 {n : Nat} {a1 : ByteArray} {a2 : Int} {a3 : Int} {r : Int} (h : f122 n a1 a2 a3 = some r) : PureSpec Try.prog 122 [(vS a1), (.fn 123 [(.iptr [(vKi .u8 a2)]), (.iptr [(vKi .u8 a3)])])] (f122_r r) := by
 rw [f122.eq_1] at h
 refine pure_of hmix ic122 ?_
 refine go_to (mkd (.val undef) 8 0 [(0, (vS a1)), (1, (.fn 123 [(.iptr [(vKi .u8 a2)]), (.iptr [(vKi .u8 a3)])]))]) ?_
 refine s_so fun N4 k4 w4 => ?_
 refine o_r1 [(4, (vI 0))] ?_
 refine o_end (k4 _ ?_)
 refine s_so fun N5 k5 w5 => ?_
 refine o_r2 [(5, (vS a1)), (6, (.fn 123 [(.iptr [(vKi .u8 a2)]), (.iptr [(vKi .u8 a3)])]))] ?_
 refine bnd h fun r6 g7 h => ?_
 refine o_o (one_call (p_f143 g7)) ?_
 refine o_r1 [(4, (vI r6))] ?_
 refine o_end (k5 _ ?_)
 exact c_ret (rets [] [(vI r6)] [(vI r6)] h)
theorem ic90 : fnIC Try.prog H0 90 = some ([.tmp 6], 30, (.seq (.ops [zO 4 (.box 0 5 [] (.t 1)), zO 5 (.box 0 5 [] (.t 2)), zO 6 (.mov (.c (.bool false)))]) (.seq (.seq (.draw [] [zQ (zM 7 0), zQ (zO 8 (.sc (.bin .eql 9) [(.t 7), (.c (.string ⟨#[]⟩))])), zQ (zM 9 8), zQ (zN 10 9 false 0), zQ (zG 11 9 false (.len true (.t 10))), zQ (zG 12 9 false (.sc (.bin .gtr 3) [(.t 11), (.c (.int .i64 20))])), zQ (zO 13 (.pick (.t 9) (.c (.bool true)) (.t 12))), zQ (zM 14 13), zQ (zN 15 14 false 0), zQ (zG 16 14 false (.sc (.idx 9) [(.t 15), (.c (.int .i64 0))])), zQ (zG 17 14 false (.ld (.t 4) 1 false)), zQ (zG 18 14 false (.sc (.bin .lss 5) [(.t 16), (.t 17)])), zQ (zO 19 (.pick (.t 14) (.c (.bool true)) (.t 18))), zQ (zM 20 19), zQ (zN 21 20 false 0), zQ (zG 22 20 false (.sc (.idx 9) [(.t 21), (.c (.int .i64 0))])), zQ (zG 23 20 false (.ld (.t 5) 1 false)), zQ (zG 24 20 false (.sc (.bin .gtr 5) [(.t 22), (.t 23)])), zQ (zO 25 (.pick (.t 20) (.c (.bool true)) (.t 24)))]) (.cond (.t 25)
  (.seq (.ops [zO 6 (.mov (.c (.bool false)))]) .ret)
  .skip)) (.seq (.ops [zM 26 0, zO 27 (.mkf 123 [(.t 4), (.t 5)]), zO 28 (.call 122 [(.t 26), (.t 27)]), zO 29 (.sc (.bin .lss 3) [(.t 28), (.c (.int .i64 0))]), zM 6 29]) .ret)))) := by kernel_rfl
def f90_k6 (n : Nat) (a1 : ByteArray) (a2 : Int) (a3 : Int) (x15 : Bool) : Option Bool := (bif x15 then some false else ((f122 n a1 a2 a3).bind fun r19 => some (decide (r19 < 0))))
def f90 (n : Nat) (a1 : ByteArray) (a2 : Int) (a3 : Int) : Option Bool := (bif (sEqF a1 (ByteArray.mk #[])) then (f90_k6 n a1 a2 a3 true) else (bif (decide ((bsz a1) > 20)) then (f90_k6 n a1 a2 a3 true) else ((si a1 0).bind fun c10 => (bif (decide (c10 < a2)) then (f90_k6 n a1 a2 a3 true) else ((si a1 0).bind fun c13 => (f90_k6 n a1 a2 a3 (decide (c13 > a3))))))))
def f90_r (r : Bool) : AV := (vB r)
theorem p_f90 {n : Nat} {a1 : ByteArray} {a2 : Int} {a3 : Int} {r : Bool} (h : f90 n a1 a2 a3 = some r) : PureSpec Try.prog 90 [(vS a1), (vKi .u8 a2), (vKi .u8 a3)] (f90_r r) := by
 rw [f90.eq_1] at h
 refine pure_of hmix ic90 ?_
 refine go_to (mkd (.val undef) 30 0 [(0, (vS a1)), (1, (vKi .u8 a2)), (2, (vKi .u8 a3))]) ?_
 refine s_so fun N4 k4 w4 => ?_
 refine o_h3 [(4, (.ptr 0 0)), (5, (.ptr 1 0)), (6, (vB false))] [(some (.box 5 [(vKi .u8 a2)])), (some (.box 5 [(vKi .u8 a3)]))] ?_
 refine o_end (k4 _ ?_)
 refine s_seq fun N5 k5 w5 => ?_
 refine J1 (r := r) (fun (x15 : Bool) => ⟨(mkd .any 30 0 [(0, (vS a1)), (4, (.ptr 0 0)), (5, (.ptr 1 0)), (25, (vB x15))]), [(some (.box 5 [(vKi .u8 a2)])), (some (.box 5 [(vKi .u8 a3)]))]⟩) (f90_k6 n a1 a2 a3) ?_ ?_
 · intro x15 h
   rw [f90_k6.eq_1] at h
   refine i_c [25] h (fun h => ?_) (fun h => ?_)
   · refine s_so fun N17 k17 w17 => ?_
     refine o_r1 [(6, (vB false))] ?_
     refine o_end (k17 _ ?_)
     exact c_ret (rets [] [(vB false)] [(vB false)] h)
   · refine c_skip (k5 _ ?_)
     refine s_so fun N18 k18 w18 => ?_
     refine o_r2 [(26, (vS a1)), (27, (.fn 123 [(.ptr 0 0), (.ptr 1 0)]))] ?_
     refine bnd h fun r19 g20 h => ?_
     refine o_o (one_callT [0, 1] (p_f122 g20) (ns_v _)) ?_
     refine o_r2 [(6, (vB (decide (r19 < 0)))), (29, (vB (decide (r19 < 0))))] ?_
     refine o_end (k18 _ ?_)
     exact c_ret (rets [] [(vB (decide (r19 < 0)))] [(vB (decide (r19 < 0)))] h)
 · intro N6 w6
   refine c_draw0 ?_
   refine d_r1 [(7, (vS a1))] ?_
   refine d_o (one_sc (vs := [.string a1, .string (ByteArray.mk #[])]) (str_eql a1 (ByteArray.mk #[]))) ?_
   refine d_r1 [(9, (vB (sEqF a1 (ByteArray.mk #[]))))] ?_
   refine i_d [8, 9] h (fun h => ?_) (fun h => ?_)
   · refine d_r16 [(10, (.val undef)), (11, (.val undef)), (12, (.val undef)), (13, (vB true)), (14, (vB true)), (15, (.val undef)), (16, (.val undef)), (17, (.val undef)), (18, (.val undef)), (19, (vB true)), (20, (vB true)), (21, (.val undef)), (22, (.val undef)), (23, (.val undef)), (24, (.val undef)), (25, (vB true))] ?_
     exact d_end (w6 _ _ (wkm [0, 4, 5, 25] (whk (whk wh_nil))) h)
   · refine d_r5 [(10, (vS a1)), (11, (vI (bsz a1))), (12, (vB (decide ((bsz a1) > 20)))), (13, (vB (decide ((bsz a1) > 20)))), (14, (vB (decide ((bsz a1) > 20))))] ?_
     refine i_d [12, 13, 14] h (fun h => ?_) (fun h => ?_)
     · refine d_r11 [(15, (.val undef)), (16, (.val undef)), (17, (.val undef)), (18, (.val undef)), (19, (vB true)), (20, (vB true)), (21, (.val undef)), (22, (.val undef)), (23, (.val undef)), (24, (.val undef)), (25, (vB true))] ?_
       exact d_end (w6 _ _ (wkm [0, 4, 5, 25] (whk (whk wh_nil))) h)
     · refine d_r1 [(15, (vS a1))] ?_
       refine bnd h fun c10 g11 h => ?_
       refine d_g (one_idx (ki := .i64) g11) ?_
       refine d_r4 [(17, (vKi .u8 a2)), (18, (vB (decide (c10 < a2)))), (19, (vB (decide (c10 < a2)))), (20, (vB (decide (c10 < a2))))] ?_
       refine i_d [18, 19, 20] h (fun h => ?_) (fun h => ?_)
       · refine d_r5 [(21, (.val undef)), (22, (.val undef)), (23, (.val undef)), (24, (.val undef)), (25, (vB true))] ?_
         refine t_tm (mkd (.val undef) 30 0 [(0, (vS a1)), (1, (vKi .u8 a2)), (2, (vKi .u8 a3)), (4, (.ptr 0 0)), (5, (.ptr 1 0)), (6, (vB false)), (7, (vS a1)), (8, (vB false)), (9, (vB false)), (10, (vS a1)), (11, (vI (bsz a1))), (12, (vB false)), (13, (vB false)), (14, (vB false)), (15, (vS a1)), (16, (vKi .u8 c10)), (17, (vKi .u8 a2)), (18, (vB true)), (19, (vB true)), (20, (vB true)), (21, (.val undef)), (22, (.val undef)), (23, (.val undef)), (24, (.val undef)), (25, (vB true))]) ?_
         exact d_end (w6 _ _ (wkm [0, 4, 5, 25] (whk (whk wh_nil))) h)
       · refine d_r1 [(21, (vS a1))] ?_
         refine t_tm (mkd (.val undef) 30 0 [(0, (vS a1)), (1, (vKi .u8 a2)), (2, (vKi .u8 a3)), (4, (.ptr 0 0)), (5, (.ptr 1 0)), (6, (vB false)), (7, (vS a1)), (8, (vB false)), (9, (vB false)), (10, (vS a1)), (11, (vI (bsz a1))), (12, (vB false)), (13, (vB false)), (14, (vB false)), (15, (vS a1)), (16, (vKi .u8 c10)), (17, (vKi .u8 a2)), (18, (vB false)), (19, (vB false)), (20, (vB false)), (21, (vS a1))]) ?_
         refine bnd h fun c13 g14 h => ?_
         refine d_g (one_idx (ki := .i64) g14) ?_
         refine d_r3 [(23, (vKi .u8 a3)), (24, (vB (decide (c13 > a3)))), (25, (vB (decide (c13 > a3))))] ?_
         exact d_end (w6 _ _ (wkm [0, 4, 5, 25] (whk (whk wh_nil))) h)
theorem ic124 : fnIC Try.prog H0 124 = some ([.tmp 4], 19, (.seq (.ops [zO 4 (.mov (.c (.int .i64 0)))]) (.seq (.seq (.ops [zM 6 0, zO 7 (.len false (.t 6)), zO 8 (.mov (.c (.int .i64 0)))]) (.block 0 (.loop (.seq (.ops [zO 9 (.sc (.bin .lss 3) [(.t 8), (.t 7)])]) (.seq (.cond (.t 9)
  .skip
  (.exit 0)) (.seq (.block 1 (.seq (.ops [zM 10 8, zM 5 10]) (.seq (.ops [zM 11 1, zM 12 0, zM 13 5, zO 14 (.iaddr 1 (.t 12) (.t 13)), zO 15 (.ld (.t 14) 1 false), zO 16 (.sc (.bin .eql 9) [(.t 11), (.t 15)])]) (.cond (.t 16)
  (.seq (.ops [zM 17 5, zM 4 17]) .ret)
  .skip)))) (.ops [zO 18 (.sc (.bin .add 3) [(.t 8), (.c (.int .i64 1))]), zM 8 18]))))))) (.seq (.ops [zO 4 (.mov (.c (.int .i64 (-1))))]) .ret)))) := by kernel_rfl
def f124_k4 : Option Int := some (-1)
def f124_l8 (a1 : (List ByteArray)) (a2 : ByteArray) (k4k : Option Int) : Nat → Int → Option Int
  | 0, _ => none
  | m8 + 1, x21 => (bif (decide (x21 < (len a1))) then ((gi a1 x21).bind fun x29 => (bif (sEqF a2 x29) then some x21 else (f124_l8 a1 a2 (k4k) m8 (wr .i64 (x21 + 1))))) else (k4k))
def f124 (n : Nat) (a1 : (List ByteArray)) (a2 : ByteArray) : Option Int := (f124_l8 a1 a2 (f124_k4) n 0)
def f124_r (r : Int) : AV := (vI r)
theorem p_f124 {n : Nat} {a1 : (List ByteArray)} {a2 : ByteArray} {r : Int} (h : f124 n a1 a2 = some r) : PureSpec Try.prog 124 [(vL cS a1), (vS a2)] (f124_r r) := by
 rw [f124.eq_1] at h
 refine pure_of hmix ic124 ?_
 refine go_to (mkd (.val undef) 19 0 [(0, (vL cS a1)), (1, (vS a2))]) ?_
 refine s_so fun N3 k3 w3 => ?_
 refine o_r1 [(4, (vI 0))] ?_
 refine o_end (k3 _ ?_)
 refine J0 (r := r) ⟨(mkd .any 19 0 []), []⟩ (f124_k4) ?_ ?_
 · intro h
   rw [f124_k4.eq_1] at h
   refine s_so fun N34 k34 w34 => ?_
   refine o_r1 [(4, (vI (-1)))] ?_
   refine o_end (k34 _ ?_)
   exact c_ret (rets [] [(vI (-1))] [(vI (-1))] h)
 · intro N4 w4
   refine s_so fun N5 k5 w5 => ?_
   refine o_r1 [(6, (vL cS a1))] ?_
   refine o_o (one_len (f := cS) (l := a1)) ?_
   refine o_r1 [(8, (vI 0))] ?_
   refine o_end (k5 _ ?_)
   refine c_block fun E7 hE7 hO7 => ?_
   refine W1 (fun (x21 : Int) => ⟨(mkd .any 19 0 [(0, (vL cS a1)), (1, (vS a2)), (7, (vI (len a1))), (8, (vI x21))]), []⟩) (f124_l8 a1 a2 (f124_k4)) h (wkm [0, 1, 7, 8] wh_nil) (by intros; rw [f124_l8.eq_1]) ?_
   intro m8 x21 h N8 w8
   rw [f124_l8.eq_2] at h
   refine s_so fun N22 k22 w22 => ?_
   refine o_r1 [(9, (vB (decide (x21 < (len a1)))))] ?_
   refine o_end (k22 _ ?_)
   refine s_seq fun N23 k23 w23 => ?_
   refine i_c [9] h (fun h => ?_) (fun h => ?_)
   · refine c_skip (k23 _ ?_)
     refine s_seq fun N25 k25 w25 => ?_
     refine c_block fun E26 hE26 hO26 => ?_
     refine s_so fun N27 k27 w27 => ?_
     refine o_r2 [(5, (vI x21)), (10, (vI x21))] ?_
     refine o_end (k27 _ ?_)
     refine s_so fun N28 k28 w28 => ?_
     refine o_r3 [(11, (vS a2)), (12, (vL cS a1)), (13, (vI x21))] ?_
     refine bnd h fun x29 g30 h => ?_
     refine o_o (one_ia (f := cS) (ki := .i64) g30) ?_
     refine o_r1 [(15, (vS x29))] ?_
     refine o_o (one_sc (vs := [.string a2, .string x29]) (str_eql a2 x29)) ?_
     refine o_end (k28 _ ?_)
     refine i_c [16] h (fun h => ?_) (fun h => ?_)
     · refine s_so fun N33 k33 w33 => ?_
       refine o_r2 [(4, (vI x21)), (17, (vI x21))] ?_
       refine o_end (k33 _ ?_)
       exact c_ret (rets [] [(vI x21)] [(vI x21)] h)
     · refine c_skip (k25 _ ?_)
       refine c_ops ?_
       refine o_r2 [(8, (vI (wr .i64 (x21 + 1)))), (18, (vI (wr .i64 (x21 + 1))))] ?_
       exact o_end (w8 _ _ (wkm [0, 1, 7, 8] wh_nil) h)
   · refine c_exit (hE7 _ ?_)
     exact w4 _ (wkm [] wh_nil) h
theorem ic91 : fnIC Try.prog H0 91 = some ([.tmp 4], 9, (.seq (.ops [zO 4 (.mov (.c (.bool false)))]) (.seq (.ops [zM 5 0, zM 6 1, zO 7 (.call 124 [(.t 5), (.t 6)]), zO 8 (.sc (.bin .geq 3) [(.t 7), (.c (.int .i64 0))]), zM 4 8]) .ret))) := by kernel_rfl
def f91 (n : Nat) (a1 : (List ByteArray)) (a2 : ByteArray) : Option Bool := ((f124 n a1 a2).bind fun r5 => some (decide (r5 ≥ 0)))
def f91_r (r : Bool) : AV := (vB r)
theorem p_f91 {n : Nat} {a1 : (List ByteArray)} {a2 : ByteArray} {r : Bool} (h : f91 n a1 a2 = some r) : PureSpec Try.prog 91 [(vL cS a1), (vS a2)] (f91_r r) := by
 rw [f91.eq_1] at h
 refine pure_of hmix ic91 ?_
 refine go_to (mkd (.val undef) 9 0 [(0, (vL cS a1)), (1, (vS a2))]) ?_
 refine s_so fun N3 k3 w3 => ?_
 refine o_r1 [(4, (vB false))] ?_
 refine o_end (k3 _ ?_)
 refine s_so fun N4 k4 w4 => ?_
 refine o_r2 [(5, (vL cS a1)), (6, (vS a2))] ?_
 refine bnd h fun r5 g6 h => ?_
 refine o_o (one_call (p_f124 g6)) ?_
 refine o_r2 [(4, (vB (decide (r5 ≥ 0)))), (8, (vB (decide (r5 ≥ 0))))] ?_
 refine o_end (k4 _ ?_)
 exact c_ret (rets [] [(vB (decide (r5 ≥ 0)))] [(vB (decide (r5 ≥ 0)))] h)
theorem ic51 : fnIC Try.prog H0 51 = some ([.tmp 2], 11, (.seq (.ops [zO 2 (.mov (.c (.bool false)))]) (.seq (.ops [zM 3 0, zO 4 (.call 90 [(.t 3), (.c (.int .u8 65)), (.c (.int .u8 90))]), zM 5 4, zG 6 5 true (.isl 1 [(.c (.string ⟨#[73, 78, 84, 69, 71, 69, 82]⟩)), (.c (.string ⟨#[66, 79, 79, 76, 69, 65, 78]⟩)), (.c (.string ⟨#[65, 78, 89]⟩)), (.c (.string ⟨#[78, 79, 78, 69]⟩))]), zN 7 5 true 0, zG 8 5 true (.call 91 [(.t 6), (.t 7)]), zG 9 5 true (.sc (.un .not) [(.t 8)]), zO 10 (.pick (.t 5) (.t 9) (.c (.bool false))), zM 2 10]) .ret))) := by kernel_rfl
def f51_k3 (x9 : Bool) : Option Bool := some x9
def f51 (n : Nat) (a1 : ByteArray) : Option Bool := ((f90 n a1 65 90).bind fun r4 => (bif r4 then ((f91 n [(ByteArray.mk #[73, 78, 84, 69, 71, 69, 82]), (ByteArray.mk #[66, 79, 79, 76, 69, 65, 78]), (ByteArray.mk #[65, 78, 89]), (ByteArray.mk #[78, 79, 78, 69])] a1).bind fun r7 => (f51_k3 (!r7))) else (f51_k3 false)))
def f51_r (r : Bool) : AV := (vB r)
theorem p_f51 {n : Nat} {a1 : ByteArray} {r : Bool} (h : f51 n a1 = some r) : PureSpec Try.prog 51 [(vS a1)] (f51_r r) := by
 rw [f51.eq_1] at h
 refine pure_of hmix ic51 ?_
 refine go_to (mkd (.val undef) 11 0 [(0, (vS a1))]) ?_
 refine s_so fun N2 k2 w2 => ?_
 refine o_r1 [(2, (vB false))] ?_
 refine o_end (k2 _ ?_)
 refine J1 (r := r) (fun (x9 : Bool) => ⟨(mkd .any 11 0 [(2, (vB x9))]), []⟩) (f51_k3) ?_ ?_
 · intro x9 h
   rw [f51_k3.eq_1] at h
   exact c_ret (rets [] [(vB x9)] [(vB x9)] h)
 · intro N3 w3
   refine c_ops ?_
   refine o_r1 [(3, (vS a1))] ?_
   refine bnd h fun r4 g5 h => ?_
   refine o_o (one_call (p_f90 g5)) ?_
   refine o_r1 [(5, (vB r4))] ?_
   refine i_o [4, 5] h (fun h => ?_) (fun h => ?_)
   · refine o_r2 [(6, (vL cS [(ByteArray.mk #[73, 78, 84, 69, 71, 69, 82]), (ByteArray.mk #[66, 79, 79, 76, 69, 65, 78]), (ByteArray.mk #[65, 78, 89]), (ByteArray.mk #[78, 79, 78, 69])])), (7, (vS a1))] ?_
     refine bnd h fun r7 g8 h => ?_
     refine o_g ?_
     refine o_o (one_call (p_f91 g8)) ?_
     refine o_r3 [(2, (vB (!r7))), (9, (vB (!r7))), (10, (vB (!r7)))] ?_
     exact o_end (w3 _ _ (wkm [2] wh_nil) h)
   · refine o_r6 [(6, (.val undef)), (7, (.val undef)), (8, (.val undef)), (9, (.val undef)), (10, (vB false))] ?_
     exact o_end (w3 _ _ (wkm [2] wh_nil) h)
theorem ic50 : fnIC Try.prog H0 50 = some ([.tmp 4], 7, (.seq (.ops [zO 4 (.mov (.c (.int .i64 0)))]) (.seq (.seq (.ops [zM 5 0]) (.cond (.t 5)
  (.seq (.ops [zO 4 (.mov (.c (.int .i64 0)))]) .ret)
  .skip)) (.seq (.ops [zM 6 1, zM 4 6]) .ret)))) := by kernel_rfl
def f50 (n : Nat) (a1 : Bool) (a2 : Int) : Option Int := (bif a1 then some 0 else some a2)
def f50_r (r : Int) : AV := (vI r)
theorem p_f50 {n : Nat} {a1 : Bool} {a2 : Int} {r : Int} (h : f50 n a1 a2 = some r) : PureSpec Try.prog 50 [(vB a1), (vI a2)] (f50_r r) := by
 rw [f50.eq_1] at h
 refine pure_of hmix ic50 ?_
 refine go_to (mkd (.val undef) 7 0 [(0, (vB a1)), (1, (vI a2))]) ?_
 refine s_so fun N3 k3 w3 => ?_
 refine o_r1 [(4, (vI 0))] ?_
 refine o_end (k3 _ ?_)
 refine s_seq fun N4 k4 w4 => ?_
 refine s_so fun N5 k5 w5 => ?_
 refine o_r1 [(5, (vB a1))] ?_
 refine o_end (k5 _ ?_)
 refine i_c [0, 5] h (fun h => ?_) (fun h => ?_)
 · refine s_so fun N7 k7 w7 => ?_
   refine o_r1 [] ?_
   refine o_end (k7 _ ?_)
   exact c_ret (rets [] [(vI 0)] [(vI 0)] h)
 · refine c_skip (k4 _ ?_)
   refine s_so fun N8 k8 w8 => ?_
   refine o_r2 [(4, (vI a2)), (6, (vI a2))] ?_
   refine o_end (k8 _ ?_)
   exact c_ret (rets [] [(vI a2)] [(vI a2)] h)
theorem ic93 : fnIC Try.prog H0 93 = some ([.tmp 2], 5, (.seq (.ops [zO 1 (.box 0 91 [(1, 93, 3, 0)] (.t 0)), zO 2 (.mov (.c (.string ⟨#[]⟩)))]) (.seq (.ops [zO 3 (.faddr (.t 1) 0), zO 4 (.ld (.t 3) 1 false), zM 2 4]) .ret))) := by kernel_rfl
def f93 (n : Nat) (a1 : Form) : Option ByteArray := some a1.fName
def f93_r (r : ByteArray) : AV := (vS r)
theorem p_f93 {n : Nat} {a1 : Form} {r : ByteArray} (h : f93 n a1 = some r) : PureSpec Try.prog 93 [(.agg [(vS a1.fName), (vL Col.c a1.fCols)])] (f93_r r) := by
 rw [f93.eq_1] at h
 refine pure_of hmix ic93 ?_
 refine go_to (mkd (.val undef) 5 0 [(0, (.agg [(vS a1.fName), (vL Col.c a1.fCols)]))]) ?_
 refine s_so fun N2 k2 w2 => ?_
 refine o_h2 [(1, (.ptr 0 0)), (2, (vS (ByteArray.mk #[])))] [(some (.box 91 [(vS a1.fName), (vL Col.c a1.fCols)]))] ?_
 refine o_end (k2 _ ?_)
 refine s_so fun N3 k3 w3 => ?_
 refine o_r3 [(2, (vS a1.fName)), (3, (.ptr 0 0)), (4, (vS a1.fName))] ?_
 refine o_end (k3 _ ?_)
 exact c_ret (rets [] [(vS a1.fName)] [(vS a1.fName)] h)
theorem ic126 : fnIC Try.prog H0 126 = some ([.tmp 4], 10, (.seq (.ops [zO 3 (.box 0 91 [(1, 93, 3, 0)] (.t 0)), zO 4 (.mov (.c (.bool false)))]) (.seq (.draw [] [zQ (zO 5 (.ld (.t 1) 1 false)), zQ (zO 6 (.ld (.t 3) 2 true)), zQ (zO 7 (.callv (.t 5) [(.t 6)])), zQ (zO 8 (.ld (.t 2) 1 false)), zQ (zO 9 (.sc (.bin .eql 9) [(.t 7), (.t 8)])), zQ (zM 4 9)]) .ret))) := by kernel_rfl
def f126 (n : Nat) (a1 : Form) (a2 : ByteArray) : Option Bool := ((f93 n a1).bind fun r5 => some (sEqF r5 a2))
def f126_r (r : Bool) : AV := (vB r)
theorem p_f126 {n : Nat} {a1 : Form} {a2 : ByteArray} {r : Bool} (h : f126 n a1 a2 = some r) : PureSpec Try.prog 126 [(.agg [(vS a1.fName), (vL Col.c a1.fCols)]), (.iptr [(.fn 93 [])]), (.iptr [(vS a2)])] (f126_r r) := by
 rw [f126.eq_1] at h
 refine pure_of hmix ic126 ?_
 refine go_to (mkd (.val undef) 10 0 [(0, (.agg [(vS a1.fName), (vL Col.c a1.fCols)])), (1, (.iptr [(.fn 93 [])])), (2, (.iptr [(vS a2)]))]) ?_
 refine s_so fun N3 k3 w3 => ?_
 refine o_h2 [(3, (.ptr 0 0)), (4, (vB false))] [(some (.box 91 [(vS a1.fName), (vL Col.c a1.fCols)]))] ?_
 refine o_end (k3 _ ?_)
 refine s_seq fun N4 k4 w4 => ?_
 refine c_draw0 ?_
 refine d_r2 [(5, (.fn 93 [])), (6, (.agg [(vS a1.fName), (vL Col.c a1.fCols)]))] ?_
 refine bnd h fun r5 g6 h => ?_
 refine d_o (one_callv (caps := []) (p_f93 g6)) ?_
 refine d_r1 [(8, (vS a2))] ?_
 refine d_o (one_sc (vs := [.string r5, .string a2]) (str_eql r5 a2)) ?_
 refine d_r1 [(4, (vB (sEqF r5 a2)))] ?_
 refine d_end (k4 _ ?_)
 exact c_ret (rets [] [(vB (sEqF r5 a2))] [(vB (sEqF r5 a2))] h)
theorem ic125 : fnIC Try.prog H0 125 = some ([.tmp 4], 19, (.seq (.ops [zO 4 (.mov (.c (.int .i64 0)))]) (.seq (.seq (.ops [zM 6 0, zO 7 (.len false (.t 6)), zO 8 (.mov (.c (.int .i64 0)))]) (.block 0 (.loop (.seq (.ops [zO 9 (.sc (.bin .lss 3) [(.t 8), (.t 7)])]) (.seq (.cond (.t 9)
  .skip
  (.exit 0)) (.seq (.block 1 (.seq (.ops [zM 10 8, zM 5 10]) (.seq (.ops [zM 11 1, zM 12 0, zM 13 5, zO 14 (.iaddr 2 (.t 12) (.t 13)), zO 15 (.ld (.t 14) 2 true), zO 16 (.callv (.t 11) [(.t 15)])]) (.cond (.t 16)
  (.seq (.ops [zM 17 5, zM 4 17]) .ret)
  .skip)))) (.ops [zO 18 (.sc (.bin .add 3) [(.t 8), (.c (.int .i64 1))]), zM 8 18]))))))) (.seq (.ops [zO 4 (.mov (.c (.int .i64 (-1))))]) .ret)))) := by kernel_rfl
def f125_k4 : Option Int := some (-1)
def f125_l8 (a1 : (List Form)) (n : Nat) (a2 : ByteArray) (k4k : Option Int) : Nat → Int → Option Int
  | 0, _ => none
  | m8 + 1, x22 => (bif (decide (x22 < (len a1))) then ((gi a1 x22).bind fun x30 => ((f126 n x30 a2).bind fun r32 => (bif r32 then some x22 else (f125_l8 a1 n a2 (k4k) m8 (wr .i64 (x22 + 1)))))) else (k4k))
def f125 (n : Nat) (a1 : (List Form)) (a2 : ByteArray) : Option Int := (f125_l8 a1 n a2 (f125_k4) n 0)
def f125_r (r : Int) : AV := (vI r)
theorem p_f125 {n : Nat} {a1 : (List Form)} {a2 : ByteArray} {r : Int} (h : f125 n a1 a2 = some r) : PureSpec Try.prog 125 [(vL Form.c a1), (.fn 126 [(.iptr [(.fn 93 [])]), (.iptr [(vS a2)])])] (f125_r r) := by
 rw [f125.eq_1] at h
 refine pure_of hmix ic125 ?_
 refine go_to (mkd (.val undef) 19 0 [(0, (vL Form.c a1)), (1, (.fn 126 [(.iptr [(.fn 93 [])]), (.iptr [(vS a2)])]))]) ?_
 refine s_so fun N3 k3 w3 => ?_
 refine o_r1 [(4, (vI 0))] ?_
 refine o_end (k3 _ ?_)
 refine J0 (r := r) ⟨(mkd .any 19 0 []), []⟩ (f125_k4) ?_ ?_
 · intro h
   rw [f125_k4.eq_1] at h
   refine s_so fun N36 k36 w36 => ?_
   refine o_r1 [(4, (vI (-1)))] ?_
   refine o_end (k36 _ ?_)
   exact c_ret (rets [] [(vI (-1))] [(vI (-1))] h)
 · intro N4 w4
   refine s_so fun N5 k5 w5 => ?_
   refine o_r1 [(6, (vL Form.c a1))] ?_
   refine o_o (one_len (f := Form.c) (l := a1)) ?_
   refine o_r1 [(8, (vI 0))] ?_
   refine o_end (k5 _ ?_)
   refine c_block fun E7 hE7 hO7 => ?_
   refine W1 (fun (x22 : Int) => ⟨(mkd .any 19 0 [(0, (vL Form.c a1)), (1, (.fn 126 [(.iptr [(.fn 93 [])]), (.iptr [(vS a2)])])), (7, (vI (len a1))), (8, (vI x22))]), []⟩) (f125_l8 a1 n a2 (f125_k4)) h (wkm [0, 1, 7, 8] wh_nil) (by intros; rw [f125_l8.eq_1]) ?_
   intro m8 x22 h N8 w8
   rw [f125_l8.eq_2] at h
   refine s_so fun N23 k23 w23 => ?_
   refine o_r1 [(9, (vB (decide (x22 < (len a1)))))] ?_
   refine o_end (k23 _ ?_)
   refine s_seq fun N24 k24 w24 => ?_
   refine i_c [9] h (fun h => ?_) (fun h => ?_)
   · refine c_skip (k24 _ ?_)
     refine s_seq fun N26 k26 w26 => ?_
     refine c_block fun E27 hE27 hO27 => ?_
     refine s_so fun N28 k28 w28 => ?_
     refine o_r2 [(5, (vI x22)), (10, (vI x22))] ?_
     refine o_end (k28 _ ?_)
     refine s_so fun N29 k29 w29 => ?_
     refine o_r3 [(11, (.fn 126 [(.iptr [(.fn 93 [])]), (.iptr [(vS a2)])])), (12, (vL Form.c a1)), (13, (vI x22))] ?_
     refine bnd h fun x30 g31 h => ?_
     refine o_o (one_ia (f := Form.c) (ki := .i64) g31) ?_
     refine o_r1 [(15, (.agg [(vS x30.fName), (vL Col.c x30.fCols)]))] ?_
     refine bnd h fun r32 g33 h => ?_
     refine o_o (one_callv (caps := [(.iptr [(.fn 93 [])]), (.iptr [(vS a2)])]) (p_f126 g33)) ?_
     refine o_end (k29 _ ?_)
     refine i_c [16] h (fun h => ?_) (fun h => ?_)
     · refine s_so fun N35 k35 w35 => ?_
       refine o_r2 [(4, (vI x22)), (17, (vI x22))] ?_
       refine o_end (k35 _ ?_)
       exact c_ret (rets [] [(vI x22)] [(vI x22)] h)
     · refine c_skip (k26 _ ?_)
       refine c_ops ?_
       refine o_r2 [(8, (vI (wr .i64 (x22 + 1)))), (18, (vI (wr .i64 (x22 + 1))))] ?_
       exact o_end (w8 _ _ (wkm [0, 1, 7, 8] wh_nil) h)
   · refine c_exit (hE7 _ ?_)
     exact w4 _ (wkm [] wh_nil) h
theorem ic92 : fnIC Try.prog H0 92 = some ([.tmp 6], 10, (.seq (.ops [zO 4 (.box 0 9 [] (.t 1)), zO 5 (.box 0 140 [] (.t 2)), zO 6 (.mov (.c (.int .i64 0)))]) (.seq (.ops [zM 7 0, zO 8 (.mkf 126 [(.t 5), (.t 4)]), zO 9 (.call 125 [(.t 7), (.t 8)]), zM 6 9]) .ret))) := by kernel_rfl
def f92 (n : Nat) (a1 : (List Form)) (a2 : ByteArray) : Option Int := ((f125 n a1 a2).bind fun r5 => some r5)
def f92_r (r : Int) : AV := (vI r)
theorem p_f92 {n : Nat} {a1 : (List Form)} {a2 : ByteArray} {r : Int} (h : f92 n a1 a2 = some r) : PureSpec Try.prog 92 [(vL Form.c a1), (vS a2), (.fn 93 [])] (f92_r r) := by
 rw [f92.eq_1] at h
 refine pure_of hmix ic92 ?_
 refine go_to (mkd (.val undef) 10 0 [(0, (vL Form.c a1)), (1, (vS a2)), (2, (.fn 93 []))]) ?_
 refine s_so fun N3 k3 w3 => ?_
 refine o_h3 [(4, (.ptr 0 0)), (5, (.ptr 1 0)), (6, (vI 0))] [(some (.box 9 [(vS a2)])), (some (.box 140 [(.fn 93 [])]))] ?_
 refine o_end (k3 _ ?_)
 refine s_so fun N4 k4 w4 => ?_
 refine o_r2 [(7, (vL Form.c a1)), (8, (.fn 126 [(.ptr 1 0), (.ptr 0 0)]))] ?_
 refine bnd h fun r5 g6 h => ?_
 refine o_o (one_callT [1, 0] (p_f125 g6) (ns_v _)) ?_
 refine o_r1 [(6, (vI r5))] ?_
 refine o_end (k4 _ ?_)
 exact c_ret (rets [] [(vI r5)] [(vI r5)] h)
theorem ic52 : fnIC Try.prog H0 52 = some ([.tmp 4], 8, (.seq (.ops [zO 4 (.mov (.c (.int .i64 0)))]) (.seq (.ops [zM 5 0, zM 6 1, zO 7 (.call 92 [(.t 5), (.t 6), (.f 93)]), zM 4 7]) .ret))) := by kernel_rfl
def f52 (n : Nat) (a1 : (List Form)) (a2 : ByteArray) : Option Int := ((f92 n a1 a2).bind fun r5 => some r5)
def f52_r (r : Int) : AV := (vI r)
theorem p_f52 {n : Nat} {a1 : (List Form)} {a2 : ByteArray} {r : Int} (h : f52 n a1 a2 = some r) : PureSpec Try.prog 52 [(vL Form.c a1), (vS a2)] (f52_r r) := by
 rw [f52.eq_1] at h
 refine pure_of hmix ic52 ?_
 refine go_to (mkd (.val undef) 8 0 [(0, (vL Form.c a1)), (1, (vS a2))]) ?_
 refine s_so fun N3 k3 w3 => ?_
 refine o_r1 [(4, (vI 0))] ?_
 refine o_end (k3 _ ?_)
 refine s_so fun N4 k4 w4 => ?_
 refine o_r2 [(5, (vL Form.c a1)), (6, (vS a2))] ?_
 refine bnd h fun r5 g6 h => ?_
 refine o_o (one_call (p_f92 g6)) ?_
 refine o_r1 [(4, (vI r5))] ?_
 refine o_end (k4 _ ?_)
 exact c_ret (rets [] [(vI r5)] [(vI r5)] h)
theorem ic94 : fnIC Try.prog H0 94 = some ([.tmp 2], 11, (.seq (.ops [zO 2 (.mov (.c (.bool false)))]) (.seq (.ops [zM 3 0, zO 4 (.call 90 [(.t 3), (.c (.int .u8 97)), (.c (.int .u8 122))]), zM 5 4, zG 6 5 true (.isl 1 [(.c (.string ⟨#[116, 114, 117, 101]⟩)), (.c (.string ⟨#[102, 97, 108, 115, 101]⟩)), (.c (.string ⟨#[118, 111, 105, 100]⟩)), (.c (.string ⟨#[99, 117, 114, 114, 101, 110, 116]⟩)), (.c (.string ⟨#[114, 101, 115, 117, 108, 116]⟩))]), zN 7 5 true 0, zG 8 5 true (.call 91 [(.t 6), (.t 7)]), zG 9 5 true (.sc (.un .not) [(.t 8)]), zO 10 (.pick (.t 5) (.t 9) (.c (.bool false))), zM 2 10]) .ret))) := by kernel_rfl
def f94_k3 (x9 : Bool) : Option Bool := some x9
def f94 (n : Nat) (a1 : ByteArray) : Option Bool := ((f90 n a1 97 122).bind fun r4 => (bif r4 then ((f91 n [(ByteArray.mk #[116, 114, 117, 101]), (ByteArray.mk #[102, 97, 108, 115, 101]), (ByteArray.mk #[118, 111, 105, 100]), (ByteArray.mk #[99, 117, 114, 114, 101, 110, 116]), (ByteArray.mk #[114, 101, 115, 117, 108, 116])] a1).bind fun r7 => (f94_k3 (!r7))) else (f94_k3 false)))
def f94_r (r : Bool) : AV := (vB r)
theorem p_f94 {n : Nat} {a1 : ByteArray} {r : Bool} (h : f94 n a1 = some r) : PureSpec Try.prog 94 [(vS a1)] (f94_r r) := by
 rw [f94.eq_1] at h
 refine pure_of hmix ic94 ?_
 refine go_to (mkd (.val undef) 11 0 [(0, (vS a1))]) ?_
 refine s_so fun N2 k2 w2 => ?_
 refine o_r1 [(2, (vB false))] ?_
 refine o_end (k2 _ ?_)
 refine J1 (r := r) (fun (x9 : Bool) => ⟨(mkd .any 11 0 [(2, (vB x9))]), []⟩) (f94_k3) ?_ ?_
 · intro x9 h
   rw [f94_k3.eq_1] at h
   exact c_ret (rets [] [(vB x9)] [(vB x9)] h)
 · intro N3 w3
   refine c_ops ?_
   refine o_r1 [(3, (vS a1))] ?_
   refine bnd h fun r4 g5 h => ?_
   refine o_o (one_call (p_f90 g5)) ?_
   refine o_r1 [(5, (vB r4))] ?_
   refine i_o [4, 5] h (fun h => ?_) (fun h => ?_)
   · refine o_r2 [(6, (vL cS [(ByteArray.mk #[116, 114, 117, 101]), (ByteArray.mk #[102, 97, 108, 115, 101]), (ByteArray.mk #[118, 111, 105, 100]), (ByteArray.mk #[99, 117, 114, 114, 101, 110, 116]), (ByteArray.mk #[114, 101, 115, 117, 108, 116])])), (7, (vS a1))] ?_
     refine bnd h fun r7 g8 h => ?_
     refine o_g ?_
     refine o_o (one_call (p_f91 g8)) ?_
     refine o_r3 [(2, (vB (!r7))), (9, (vB (!r7))), (10, (vB (!r7)))] ?_
     exact o_end (w3 _ _ (wkm [2] wh_nil) h)
   · refine o_r6 [(6, (.val undef)), (7, (.val undef)), (8, (.val undef)), (9, (.val undef)), (10, (vB false))] ?_
     exact o_end (w3 _ _ (wkm [2] wh_nil) h)
theorem ic128 : fnIC Try.prog H0 128 = some ([.tmp 2], 5, (.seq (.ops [zO 1 (.box 0 93 [] (.t 0)), zO 2 (.mov (.c (.string ⟨#[]⟩)))]) (.seq (.ops [zO 3 (.faddr (.t 1) 0), zO 4 (.ld (.t 3) 1 false), zM 2 4]) .ret))) := by kernel_rfl
def f128 (n : Nat) (a1 : Col) : Option ByteArray := some a1.fName
def f128_r (r : ByteArray) : AV := (vS r)
theorem p_f128 {n : Nat} {a1 : Col} {r : ByteArray} (h : f128 n a1 = some r) : PureSpec Try.prog 128 [(.agg [(vS a1.fName), (vI a1.fKind), (vS a1.fClass)])] (f128_r r) := by
 rw [f128.eq_1] at h
 refine pure_of hmix ic128 ?_
 refine go_to (mkd (.val undef) 5 0 [(0, (.agg [(vS a1.fName), (vI a1.fKind), (vS a1.fClass)]))]) ?_
 refine s_so fun N2 k2 w2 => ?_
 refine o_h2 [(1, (.ptr 0 0)), (2, (vS (ByteArray.mk #[])))] [(some (.box 93 [(vS a1.fName), (vI a1.fKind), (vS a1.fClass)]))] ?_
 refine o_end (k2 _ ?_)
 refine s_so fun N3 k3 w3 => ?_
 refine o_r3 [(2, (vS a1.fName)), (3, (.ptr 0 0)), (4, (vS a1.fName))] ?_
 refine o_end (k3 _ ?_)
 exact c_ret (rets [] [(vS a1.fName)] [(vS a1.fName)] h)
theorem ic145 : fnIC Try.prog H0 145 = some ([.tmp 4], 10, (.seq (.ops [zO 3 (.box 0 93 [] (.t 0)), zO 4 (.mov (.c (.bool false)))]) (.seq (.draw [] [zQ (zO 5 (.ld (.t 1) 1 false)), zQ (zO 6 (.ld (.t 3) 3 true)), zQ (zO 7 (.callv (.t 5) [(.t 6)])), zQ (zO 8 (.ld (.t 2) 1 false)), zQ (zO 9 (.sc (.bin .eql 9) [(.t 7), (.t 8)])), zQ (zM 4 9)]) .ret))) := by kernel_rfl
def f145 (n : Nat) (a1 : Col) (a2 : ByteArray) : Option Bool := ((f128 n a1).bind fun r5 => some (sEqF r5 a2))
def f145_r (r : Bool) : AV := (vB r)
theorem p_f145 {n : Nat} {a1 : Col} {a2 : ByteArray} {r : Bool} (h : f145 n a1 a2 = some r) : PureSpec Try.prog 145 [(.agg [(vS a1.fName), (vI a1.fKind), (vS a1.fClass)]), (.iptr [(.fn 128 [])]), (.iptr [(vS a2)])] (f145_r r) := by
 rw [f145.eq_1] at h
 refine pure_of hmix ic145 ?_
 refine go_to (mkd (.val undef) 10 0 [(0, (.agg [(vS a1.fName), (vI a1.fKind), (vS a1.fClass)])), (1, (.iptr [(.fn 128 [])])), (2, (.iptr [(vS a2)]))]) ?_
 refine s_so fun N3 k3 w3 => ?_
 refine o_h2 [(3, (.ptr 0 0)), (4, (vB false))] [(some (.box 93 [(vS a1.fName), (vI a1.fKind), (vS a1.fClass)]))] ?_
 refine o_end (k3 _ ?_)
 refine s_seq fun N4 k4 w4 => ?_
 refine c_draw0 ?_
 refine d_r2 [(5, (.fn 128 [])), (6, (.agg [(vS a1.fName), (vI a1.fKind), (vS a1.fClass)]))] ?_
 refine bnd h fun r5 g6 h => ?_
 refine d_o (one_callv (caps := []) (p_f128 g6)) ?_
 refine d_r1 [(8, (vS a2))] ?_
 refine d_o (one_sc (vs := [.string r5, .string a2]) (str_eql r5 a2)) ?_
 refine d_r1 [(4, (vB (sEqF r5 a2)))] ?_
 refine d_end (k4 _ ?_)
 exact c_ret (rets [] [(vB (sEqF r5 a2))] [(vB (sEqF r5 a2))] h)
theorem ic144 : fnIC Try.prog H0 144 = some ([.tmp 4], 19, (.seq (.ops [zO 4 (.mov (.c (.int .i64 0)))]) (.seq (.seq (.ops [zM 6 0, zO 7 (.len false (.t 6)), zO 8 (.mov (.c (.int .i64 0)))]) (.block 0 (.loop (.seq (.ops [zO 9 (.sc (.bin .lss 3) [(.t 8), (.t 7)])]) (.seq (.cond (.t 9)
  .skip
  (.exit 0)) (.seq (.block 1 (.seq (.ops [zM 10 8, zM 5 10]) (.seq (.ops [zM 11 1, zM 12 0, zM 13 5, zO 14 (.iaddr 3 (.t 12) (.t 13)), zO 15 (.ld (.t 14) 3 true), zO 16 (.callv (.t 11) [(.t 15)])]) (.cond (.t 16)
  (.seq (.ops [zM 17 5, zM 4 17]) .ret)
  .skip)))) (.ops [zO 18 (.sc (.bin .add 3) [(.t 8), (.c (.int .i64 1))]), zM 8 18]))))))) (.seq (.ops [zO 4 (.mov (.c (.int .i64 (-1))))]) .ret)))) := by kernel_rfl
def f144_k4 : Option Int := some (-1)
def f144_l8 (a1 : (List Col)) (n : Nat) (a2 : ByteArray) (k4k : Option Int) : Nat → Int → Option Int
  | 0, _ => none
  | m8 + 1, x22 => (bif (decide (x22 < (len a1))) then ((gi a1 x22).bind fun x30 => ((f145 n x30 a2).bind fun r32 => (bif r32 then some x22 else (f144_l8 a1 n a2 (k4k) m8 (wr .i64 (x22 + 1)))))) else (k4k))
def f144 (n : Nat) (a1 : (List Col)) (a2 : ByteArray) : Option Int := (f144_l8 a1 n a2 (f144_k4) n 0)
def f144_r (r : Int) : AV := (vI r)
theorem p_f144 {n : Nat} {a1 : (List Col)} {a2 : ByteArray} {r : Int} (h : f144 n a1 a2 = some r) : PureSpec Try.prog 144 [(vL Col.c a1), (.fn 145 [(.iptr [(.fn 128 [])]), (.iptr [(vS a2)])])] (f144_r r) := by
 rw [f144.eq_1] at h
 refine pure_of hmix ic144 ?_
 refine go_to (mkd (.val undef) 19 0 [(0, (vL Col.c a1)), (1, (.fn 145 [(.iptr [(.fn 128 [])]), (.iptr [(vS a2)])]))]) ?_
 refine s_so fun N3 k3 w3 => ?_
 refine o_r1 [(4, (vI 0))] ?_
 refine o_end (k3 _ ?_)
 refine J0 (r := r) ⟨(mkd .any 19 0 []), []⟩ (f144_k4) ?_ ?_
 · intro h
   rw [f144_k4.eq_1] at h
   refine s_so fun N36 k36 w36 => ?_
   refine o_r1 [(4, (vI (-1)))] ?_
   refine o_end (k36 _ ?_)
   exact c_ret (rets [] [(vI (-1))] [(vI (-1))] h)
 · intro N4 w4
   refine s_so fun N5 k5 w5 => ?_
   refine o_r1 [(6, (vL Col.c a1))] ?_
   refine o_o (one_len (f := Col.c) (l := a1)) ?_
   refine o_r1 [(8, (vI 0))] ?_
   refine o_end (k5 _ ?_)
   refine c_block fun E7 hE7 hO7 => ?_
   refine W1 (fun (x22 : Int) => ⟨(mkd .any 19 0 [(0, (vL Col.c a1)), (1, (.fn 145 [(.iptr [(.fn 128 [])]), (.iptr [(vS a2)])])), (7, (vI (len a1))), (8, (vI x22))]), []⟩) (f144_l8 a1 n a2 (f144_k4)) h (wkm [0, 1, 7, 8] wh_nil) (by intros; rw [f144_l8.eq_1]) ?_
   intro m8 x22 h N8 w8
   rw [f144_l8.eq_2] at h
   refine s_so fun N23 k23 w23 => ?_
   refine o_r1 [(9, (vB (decide (x22 < (len a1)))))] ?_
   refine o_end (k23 _ ?_)
   refine s_seq fun N24 k24 w24 => ?_
   refine i_c [9] h (fun h => ?_) (fun h => ?_)
   · refine c_skip (k24 _ ?_)
     refine s_seq fun N26 k26 w26 => ?_
     refine c_block fun E27 hE27 hO27 => ?_
     refine s_so fun N28 k28 w28 => ?_
     refine o_r2 [(5, (vI x22)), (10, (vI x22))] ?_
     refine o_end (k28 _ ?_)
     refine s_so fun N29 k29 w29 => ?_
     refine o_r3 [(11, (.fn 145 [(.iptr [(.fn 128 [])]), (.iptr [(vS a2)])])), (12, (vL Col.c a1)), (13, (vI x22))] ?_
     refine bnd h fun x30 g31 h => ?_
     refine o_o (one_ia (f := Col.c) (ki := .i64) g31) ?_
     refine o_r1 [(15, (.agg [(vS x30.fName), (vI x30.fKind), (vS x30.fClass)]))] ?_
     refine bnd h fun r32 g33 h => ?_
     refine o_o (one_callv (caps := [(.iptr [(.fn 128 [])]), (.iptr [(vS a2)])]) (p_f145 g33)) ?_
     refine o_end (k29 _ ?_)
     refine i_c [16] h (fun h => ?_) (fun h => ?_)
     · refine s_so fun N35 k35 w35 => ?_
       refine o_r2 [(4, (vI x22)), (17, (vI x22))] ?_
       refine o_end (k35 _ ?_)
       exact c_ret (rets [] [(vI x22)] [(vI x22)] h)
     · refine c_skip (k26 _ ?_)
       refine c_ops ?_
       refine o_r2 [(8, (vI (wr .i64 (x22 + 1)))), (18, (vI (wr .i64 (x22 + 1))))] ?_
       exact o_end (w8 _ _ (wkm [0, 1, 7, 8] wh_nil) h)
   · refine c_exit (hE7 _ ?_)
     exact w4 _ (wkm [] wh_nil) h
theorem ic127 : fnIC Try.prog H0 127 = some ([.tmp 6], 10, (.seq (.ops [zO 4 (.box 0 9 [] (.t 1)), zO 5 (.box 0 181 [] (.t 2)), zO 6 (.mov (.c (.int .i64 0)))]) (.seq (.ops [zM 7 0, zO 8 (.mkf 145 [(.t 5), (.t 4)]), zO 9 (.call 144 [(.t 7), (.t 8)]), zM 6 9]) .ret))) := by kernel_rfl
def f127 (n : Nat) (a1 : (List Col)) (a2 : ByteArray) : Option Int := ((f144 n a1 a2).bind fun r5 => some r5)
def f127_r (r : Int) : AV := (vI r)
theorem p_f127 {n : Nat} {a1 : (List Col)} {a2 : ByteArray} {r : Int} (h : f127 n a1 a2 = some r) : PureSpec Try.prog 127 [(vL Col.c a1), (vS a2), (.fn 128 [])] (f127_r r) := by
 rw [f127.eq_1] at h
 refine pure_of hmix ic127 ?_
 refine go_to (mkd (.val undef) 10 0 [(0, (vL Col.c a1)), (1, (vS a2)), (2, (.fn 128 []))]) ?_
 refine s_so fun N3 k3 w3 => ?_
 refine o_h3 [(4, (.ptr 0 0)), (5, (.ptr 1 0)), (6, (vI 0))] [(some (.box 9 [(vS a2)])), (some (.box 181 [(.fn 128 [])]))] ?_
 refine o_end (k3 _ ?_)
 refine s_so fun N4 k4 w4 => ?_
 refine o_r2 [(7, (vL Col.c a1)), (8, (.fn 145 [(.ptr 1 0), (.ptr 0 0)]))] ?_
 refine bnd h fun r5 g6 h => ?_
 refine o_o (one_callT [1, 0] (p_f144 g6) (ns_v _)) ?_
 refine o_r1 [(6, (vI r5))] ?_
 refine o_end (k4 _ ?_)
 exact c_ret (rets [] [(vI r5)] [(vI r5)] h)
theorem ic95 : fnIC Try.prog H0 95 = some ([.tmp 4], 8, (.seq (.ops [zO 4 (.mov (.c (.int .i64 0)))]) (.seq (.ops [zM 5 0, zM 6 1, zO 7 (.call 127 [(.t 5), (.t 6), (.f 128)]), zM 4 7]) .ret))) := by kernel_rfl
def f95 (n : Nat) (a1 : (List Col)) (a2 : ByteArray) : Option Int := ((f127 n a1 a2).bind fun r5 => some r5)
def f95_r (r : Int) : AV := (vI r)
theorem p_f95 {n : Nat} {a1 : (List Col)} {a2 : ByteArray} {r : Int} (h : f95 n a1 a2 = some r) : PureSpec Try.prog 95 [(vL Col.c a1), (vS a2)] (f95_r r) := by
 rw [f95.eq_1] at h
 refine pure_of hmix ic95 ?_
 refine go_to (mkd (.val undef) 8 0 [(0, (vL Col.c a1)), (1, (vS a2))]) ?_
 refine s_so fun N3 k3 w3 => ?_
 refine o_r1 [(4, (vI 0))] ?_
 refine o_end (k3 _ ?_)
 refine s_so fun N4 k4 w4 => ?_
 refine o_r2 [(5, (vL Col.c a1)), (6, (vS a2))] ?_
 refine bnd h fun r5 g6 h => ?_
 refine o_o (one_call (p_f127 g6)) ?_
 refine o_r1 [(4, (vI r5))] ?_
 refine o_end (k4 _ ?_)
 exact c_ret (rets [] [(vI r5)] [(vI r5)] h)
theorem ic86 : fnIC Try.prog H0 86 = some ([.tmp 6], 15, (.seq (.ops [zO 6 (.mov (.c (.bool false)))]) (.seq (.ops [zM 7 1, zM 8 0, zO 9 (.sc (.bin .leq 3) [(.t 7), (.t 8)]), zM 10 9, zN 11 10 true 0, zN 12 10 true 2, zG 13 10 true (.sc (.bin .leq 3) [(.t 11), (.t 12)]), zO 14 (.pick (.t 10) (.t 13) (.c (.bool false))), zM 6 14]) .ret))) := by kernel_rfl
def f86_k5 (x7 : Bool) : Option Bool := some x7
def f86 (n : Nat) (a1 : Int) (a2 : Int) (a3 : Int) : Option Bool := (bif (decide (a2 ≤ a1)) then (f86_k5 (decide (a1 ≤ a3))) else (f86_k5 false))
def f86_r (r : Bool) : AV := (vB r)
theorem p_f86 {n : Nat} {a1 : Int} {a2 : Int} {a3 : Int} {r : Bool} (h : f86 n a1 a2 a3 = some r) : PureSpec Try.prog 86 [(vI a1), (vI a2), (vI a3)] (f86_r r) := by
 rw [f86.eq_1] at h
 refine pure_of hmix ic86 ?_
 refine go_to (mkd (.val undef) 15 0 [(0, (vI a1)), (1, (vI a2)), (2, (vI a3))]) ?_
 refine s_so fun N4 k4 w4 => ?_
 refine o_r1 [(6, (vB false))] ?_
 refine o_end (k4 _ ?_)
 refine J1 (r := r) (fun (x7 : Bool) => ⟨(mkd .any 15 0 [(6, (vB x7))]), []⟩) (f86_k5) ?_ ?_
 · intro x7 h
   rw [f86_k5.eq_1] at h
   exact c_ret (rets [] [(vB x7)] [(vB x7)] h)
 · intro N5 w5
   refine c_ops ?_
   refine o_r4 [(7, (vI a2)), (8, (vI a1)), (9, (vB (decide (a2 ≤ a1)))), (10, (vB (decide (a2 ≤ a1))))] ?_
   refine i_o [9, 10] h (fun h => ?_) (fun h => ?_)
   · refine o_r5 [(6, (vB (decide (a1 ≤ a3)))), (11, (vI a1)), (12, (vI a3)), (13, (vB (decide (a1 ≤ a3)))), (14, (vB (decide (a1 ≤ a3))))] ?_
     exact o_end (w5 _ _ (wkm [6] wh_nil) h)
   · refine o_r5 [(11, (.val undef)), (12, (.val undef)), (13, (.val undef)), (14, (vB false))] ?_
     exact o_end (w5 _ _ (wkm [6] wh_nil) h)
theorem ic53 : fnIC Try.prog H0 53 = some ([.tmp 2], 41, (.seq (.ops [zO 2 (.mov (.c (.int .i64 0)))]) (.seq (.seq (.ops [zM 5 0, zO 6 (.len false (.t 5)), zO 7 (.sc (.bin .gtr 3) [(.t 6), (.c (.int .i64 30))])]) (.cond (.t 7)
  (.seq (.ops [zO 2 (.mov (.c (.int .i64 3)))]) .ret)
  .skip)) (.seq (.seq (.ops [zM 8 0, zO 9 (.len false (.t 8)), zO 10 (.mov (.c (.int .i64 0)))]) (.block 0 (.loop (.seq (.ops [zO 11 (.sc (.bin .lss 3) [(.t 10), (.t 9)])]) (.seq (.cond (.t 11)
  .skip
  (.exit 0)) (.seq (.block 1 (.seq (.ops [zM 12 10, zO 13 (.iaddr 3 (.t 8) (.t 10)), zO 14 (.ld (.t 13) 3 true), zO 4 (.alloc 0 93 [] [(.string ⟨#[]⟩), (.int .i64 0), (.string ⟨#[]⟩)]), zM 3 12, zU (.st true 3 [] (.t 4) (.t 14))]) (.seq (.seq (.ops [zO 15 (.faddr (.t 4) 0), zO 16 (.ld (.t 15) 1 false), zO 17 (.call 94 [(.t 16)]), zO 18 (.sc (.un .not) [(.t 17)])]) (.cond (.t 18)
  (.seq (.ops [zO 2 (.mov (.c (.int .i64 4)))]) .ret)
  .skip)) (.seq (.seq (.draw [] [zQ (zM 19 0), zQ (zM 20 3), zQ (zO 21 (.lsl 3 (.t 19) none (some (.t 20)))), zQ (zO 22 (.faddr (.t 4) 0)), zQ (zO 23 (.ld (.t 22) 1 false)), zQ (zO 24 (.call 95 [(.t 21), (.t 23)])), zQ (zO 25 (.sc (.bin .geq 3) [(.t 24), (.c (.int .i64 0))]))]) (.cond (.t 25)
  (.seq (.ops [zO 2 (.mov (.c (.int .i64 6)))]) .ret)
  .skip)) (.seq (.ops [zO 26 (.faddr (.t 4) 1), zO 27 (.ld (.t 26) 1 false), zO 28 (.call 86 [(.t 27), (.c (.int .i64 1)), (.c (.int .i64 3))]), zO 29 (.sc (.un .not) [(.t 28)]), zM 30 29, zG 31 30 false (.faddr (.t 4) 1), zG 32 30 false (.ld (.t 31) 1 false), zG 33 30 false (.sc (.bin .neq 3) [(.t 32), (.c (.int .i64 3))]), zN 34 30 false 33, zG 35 34 true (.faddr (.t 4) 2), zG 36 34 true (.ld (.t 35) 1 false), zG 37 34 true (.sc (.bin .neq 9) [(.t 36), (.c (.string ⟨#[]⟩))]), zG 38 30 false (.pick (.t 34) (.t 37) (.c (.bool false))), zO 39 (.pick (.t 30) (.c (.bool true)) (.t 38))]) (.cond (.t 39)
  (.seq (.ops [zO 2 (.mov (.c (.int .i64 1)))]) .ret)
  .skip)))))) (.ops [zO 40 (.sc (.bin .add 3) [(.t 10), (.c (.int .i64 1))]), zM 10 40]))))))) (.seq (.ops [zO 2 (.mov (.c (.int .i64 0)))]) .ret))))) := by kernel_rfl
def f53_k67 (x44 : Int) (c12k : Int → Option Int) (x73 : Bool) : Option Int := (bif x73 then some 1 else (c12k (wr .i64 (x44 + 1))))
def f53_k8 : Option Int := some 0
def f53_l12 (a1 : (List Col)) (n : Nat) (k8k : Option Int) : Nat → Int → Option Int
  | 0, _ => none
  | m12 + 1, x44 => (bif (decide (x44 < (len a1))) then ((gi a1 x44).bind fun x51 => ((f94 n x51.fName).bind fun r55 => (bif (!r55) then some 4 else ((sli a1 0 x44).bind fun l61 => ((f95 n l61 x51.fName).bind fun r63 => (bif (decide (r63 ≥ 0)) then some 6 else ((f86 n x51.fKind 1 3).bind fun r68 => (bif (!r68) then (f53_k67 x44 (f53_l12 a1 n (k8k) m12) true) else (bif (x51.fKind != 3) then (f53_k67 x44 (f53_l12 a1 n (k8k) m12) (!(sEqF x51.fClass (ByteArray.mk #[])))) else (f53_k67 x44 (f53_l12 a1 n (k8k) m12) false)))))))))) else (k8k))
def f53 (n : Nat) (a1 : (List Col)) : Option Int := (bif (decide ((len a1) > 30)) then some 3 else (f53_l12 a1 n (f53_k8) n 0))
def f53_r (r : Int) : AV := (vI r)
theorem p_f53 {n : Nat} {a1 : (List Col)} {r : Int} (h : f53 n a1 = some r) : PureSpec Try.prog 53 [(vL Col.c a1)] (f53_r r) := by
 rw [f53.eq_1] at h
 refine pure_of hmix ic53 ?_
 refine go_to (mkd (.val undef) 41 0 [(0, (vL Col.c a1))]) ?_
 refine s_so fun N2 k2 w2 => ?_
 refine o_r1 [(2, (vI 0))] ?_
 refine o_end (k2 _ ?_)
 refine s_seq fun N3 k3 w3 => ?_
 refine s_so fun N4 k4 w4 => ?_
 refine o_r1 [(5, (vL Col.c a1))] ?_
 refine o_o (one_len (f := Col.c) (l := a1)) ?_
 refine o_r1 [(7, (vB (decide ((len a1) > 30))))] ?_
 refine o_end (k4 _ ?_)
 refine i_c [7] h (fun h => ?_) (fun h => ?_)
 · refine s_so fun N7 k7 w7 => ?_
   refine o_r1 [(2, (vI 3))] ?_
   refine o_end (k7 _ ?_)
   exact c_ret (rets [] [(vI 3)] [(vI 3)] h)
 · refine c_skip (k3 _ ?_)
   refine J0 (r := r) ⟨(mkd .any 41 0 []), []⟩ (f53_k8) ?_ ?_
   · intro h
     rw [f53_k8.eq_1] at h
     refine s_so fun N76 k76 w76 => ?_
     refine o_r1 [(2, (vI 0))] ?_
     refine o_end (k76 _ ?_)
     exact c_ret (rets [] [(vI 0)] [(vI 0)] h)
   · intro N8 w8
     refine s_so fun N9 k9 w9 => ?_
     refine o_r1 [(8, (vL Col.c a1))] ?_
     refine o_o (one_len (f := Col.c) (l := a1)) ?_
     refine o_r1 [(10, (vI 0))] ?_
     refine o_end (k9 _ ?_)
     refine c_block fun E11 hE11 hO11 => ?_
     refine W1 (fun (x44 : Int) => ⟨(mkd .any 41 0 [(0, (vL Col.c a1)), (8, (vL Col.c a1)), (9, (vI (len a1))), (10, (vI x44))]), []⟩) (f53_l12 a1 n (f53_k8)) h (wkm [0, 8, 9, 10] wh_nil) (by intros; rw [f53_l12.eq_1]) ?_
     intro m12 x44 h N12 w12
     rw [f53_l12.eq_2] at h
     refine s_so fun N45 k45 w45 => ?_
     refine o_r1 [(11, (vB (decide (x44 < (len a1)))))] ?_
     refine o_end (k45 _ ?_)
     refine s_seq fun N46 k46 w46 => ?_
     refine i_c [11] h (fun h => ?_) (fun h => ?_)
     · refine c_skip (k46 _ ?_)
       refine s_seq fun N48 k48 w48 => ?_
       refine c_block fun E49 hE49 hO49 => ?_
       refine s_so fun N50 k50 w50 => ?_
       refine o_r1 [(12, (vI x44))] ?_
       refine bnd h fun x51 g52 h => ?_
       refine o_o (one_ia (f := Col.c) (ki := .i64) g52) ?_
       refine o_h4 [(3, (vI x44)), (4, (.ptr 0 0)), (14, (.agg [(vS x51.fName), (vI x51.fKind), (vS x51.fClass)]))] [(some (.box 93 [(vS x51.fName), (vI x51.fKind), (vS x51.fClass)]))] ?_
       refine o_end (k50 _ ?_)
       refine s_seq fun N53 k53 w53 => ?_
       refine s_so fun N54 k54 w54 => ?_
       refine o_r2 [(15, (.ptr 0 0)), (16, (vS x51.fName))] ?_
       refine bnd h fun r55 g56 h => ?_
       refine o_o (one_call (p_f94 g56)) ?_
       refine o_r1 [(18, (vB (!r55)))] ?_
       refine o_end (k54 _ ?_)
       refine i_c [18] h (fun h => ?_) (fun h => ?_)
       · refine s_so fun N58 k58 w58 => ?_
         refine o_r1 [(2, (vI 4))] ?_
         refine o_end (k58 _ ?_)
         exact c_ret (rets [] [(vI 4)] [(vI 4)] h)
       · refine c_skip (k53 _ ?_)
         refine s_seq fun N59 k59 w59 => ?_
         refine s_seq fun N60 k60 w60 => ?_
         refine c_draw0 ?_
         refine d_r2 [(19, (vL Col.c a1)), (20, (vI x44))] ?_
         refine bnd h fun l61 g62 h => ?_
         refine d_o (one_lsl (f := Col.c) g62 (fun _ => rfl)) ?_
         refine d_r2 [(22, (.ptr 0 0)), (23, (vS x51.fName))] ?_
         refine t_tm (mkd .any 41 0 [(0, (vL Col.c a1)), (3, (vI x44)), (4, (.ptr 0 0)), (8, (vL Col.c a1)), (9, (vI (len a1))), (10, (vI x44)), (11, (vB true)), (12, (vI x44)), (13, (.iptr [(vS x51.fName), (vI x51.fKind), (vS x51.fClass)])), (14, (.agg [(vS x51.fName), (vI x51.fKind), (vS x51.fClass)])), (15, (.ptr 0 0)), (16, (vS x51.fName)), (17, (vB r55)), (18, (vB false)), (19, (vL Col.c a1)), (20, (vI x44)), (21, (vL Col.c l61)), (22, (.ptr 0 0)), (23, (vS x51.fName))]) ?_
         refine bnd h fun r63 g64 h => ?_
         refine d_o (one_call (p_f95 g64)) ?_
         refine d_r1 [(25, (vB (decide (r63 ≥ 0))))] ?_
         refine d_end (k60 _ ?_)
         refine i_c [25] h (fun h => ?_) (fun h => ?_)
         · refine s_so fun N66 k66 w66 => ?_
           refine o_r1 [(2, (vI 6))] ?_
           refine o_end (w66 _ ⟨(mkd .any 41 0 [(2, (vI 6))]), []⟩ (wkm [2] wh_nil) ?_)
           exact c_ret (rets [] [(vI 6)] [(vI 6)] h)
         · refine c_skip (w59 _ ⟨(mkd .any 41 0 [(0, (vL Col.c a1)), (4, (.ptr 0 0)), (8, (vL Col.c a1)), (9, (vI (len a1))), (10, (vI x44))]), [(some (.box 93 [(vS x51.fName), (vI x51.fKind), (vS x51.fClass)]))]⟩ (wkm [0, 4, 8, 9, 10] (whk wh_nil)) ?_)
           refine J1 (r := r) (fun (x73 : Bool) => ⟨(mkd .any 41 0 [(0, (vL Col.c a1)), (8, (vL Col.c a1)), (9, (vI (len a1))), (10, (vI x44)), (39, (vB x73))]), []⟩) (f53_k67 x44 (f53_l12 a1 n (f53_k8) m12)) ?_ ?_
           · intro x73 h
             rw [f53_k67.eq_1] at h
             refine i_c [39] h (fun h => ?_) (fun h => ?_)
             · refine s_so fun N75 k75 w75 => ?_
               refine o_r1 [(2, (vI 1))] ?_
               refine o_end (k75 _ ?_)
               exact c_ret (rets [] [(vI 1)] [(vI 1)] h)
             · refine c_skip (k48 _ ?_)
               refine c_ops ?_
               refine o_r2 [(10, (vI (wr .i64 (x44 + 1)))), (40, (vI (wr .i64 (x44 + 1))))] ?_
               exact o_end (w12 _ _ (wkm [0, 8, 9, 10] wh_nil) h)
           · intro N67 w67
             refine c_ops ?_
             refine o_r2 [(26, (.ptr 0 1)), (27, (vI x51.fKind))] ?_
             refine bnd h fun r68 g69 h => ?_
             refine o_o (one_call (p_f86 g69)) ?_
             refine o_r2 [(29, (vB (!r68))), (30, (vB (!r68)))] ?_
             refine i_o [29, 30] h (fun h => ?_) (fun h => ?_)
             · refine o_r9 [(31, (.val undef)), (32, (.val undef)), (33, (.val undef)), (34, (.val undef)), (35, (.val undef)), (36, (.val undef)), (37, (.val undef)), (38, (.val undef)), (39, (vB true))] ?_
               exact o_end (w67 _ _ (wkm [0, 8, 9, 10, 39] wh_nil) h)
             · refine o_r4 [(31, (.ptr 0 1)), (32, (vI x51.fKind)), (33, (vB (x51.fKind != 3))), (34, (vB (x51.fKind != 3)))] ?_
               refine i_o [33, 34] h (fun h => ?_) (fun h => ?_)
               · refine o_r2 [(35, (.ptr 0 2)), (36, (vS x51.fClass))] ?_
                 refine o_g ?_
                 refine o_o (one_sc (vs := [.string x51.fClass, .string (ByteArray.mk #[])]) (str_neq x51.fClass (ByteArray.mk #[]))) ?_
                 refine o_r2 [(38, (vB (!(sEqF x51.fClass (ByteArray.mk #[]))))), (39, (vB (!(sEqF x51.fClass (ByteArray.mk #[])))))] ?_
                 exact o_end (w67 _ _ (wkm [0, 8, 9, 10, 39] wh_nil) h)
               · refine o_r5 [(35, (.val undef)), (36, (.val undef)), (37, (.val undef)), (38, (vB false)), (39, (vB false))] ?_
                 exact o_end (w67 _ _ (wkm [0, 8, 9, 10, 39] wh_nil) h)
     · refine c_exit (hE11 _ ?_)
       exact w8 _ (wkm [] wh_nil) h
theorem ic49 : fnIC Try.prog H0 49 = some ([.tmp 2], 15, (.seq (.ops [zO 2 (.mov (.c (.int .i64 0)))]) (.seq (.seq (.ops [zM 5 0, zO 6 (.len false (.t 5)), zO 7 (.mov (.c (.int .i64 0)))]) (.block 0 (.loop (.seq (.ops [zO 8 (.sc (.bin .lss 3) [(.t 7), (.t 6)])]) (.seq (.cond (.t 8)
  .skip
  (.exit 0)) (.seq (.block 1 (.seq (.ops [zO 9 (.iaddr 1 (.t 5) (.t 7)), zO 10 (.ld (.t 9) 1 false), zM 4 10]) (.seq (.ops [zM 11 4, zO 12 (.sc (.bin .neq 30) [(.t 11), (.c (.int .i64 0))])]) (.cond (.t 12)
  (.seq (.ops [zM 13 4, zM 2 13]) .ret)
  .skip)))) (.ops [zO 14 (.sc (.bin .add 3) [(.t 7), (.c (.int .i64 1))]), zM 7 14]))))))) (.seq (.ops [zO 2 (.mov (.c (.int .i64 0)))]) .ret)))) := by kernel_rfl
def f49_k3 : Option Int := some 0
def f49_l7 (a1 : (List Int)) (k3k : Option Int) : Nat → Int → Option Int
  | 0, _ => none
  | m7 + 1, x19 => (bif (decide (x19 < (len a1))) then ((gi a1 x19).bind fun x26 => (bif (x26 != 0) then some x26 else (f49_l7 a1 (k3k) m7 (wr .i64 (x19 + 1))))) else (k3k))
def f49 (n : Nat) (a1 : (List Int)) : Option Int := (f49_l7 a1 (f49_k3) n 0)
def f49_r (r : Int) : AV := (vI r)
theorem p_f49 {n : Nat} {a1 : (List Int)} {r : Int} (h : f49 n a1 = some r) : PureSpec Try.prog 49 [(vL cI a1)] (f49_r r) := by
 rw [f49.eq_1] at h
 refine pure_of hmix ic49 ?_
 refine go_to (mkd (.val undef) 15 0 [(0, (vL cI a1))]) ?_
 refine s_so fun N2 k2 w2 => ?_
 refine o_r1 [(2, (vI 0))] ?_
 refine o_end (k2 _ ?_)
 refine J0 (r := r) ⟨(mkd .any 15 0 []), []⟩ (f49_k3) ?_ ?_
 · intro h
   rw [f49_k3.eq_1] at h
   refine s_so fun N31 k31 w31 => ?_
   refine o_r1 [(2, (vI 0))] ?_
   refine o_end (k31 _ ?_)
   exact c_ret (rets [] [(vI 0)] [(vI 0)] h)
 · intro N3 w3
   refine s_so fun N4 k4 w4 => ?_
   refine o_r1 [(5, (vL cI a1))] ?_
   refine o_o (one_len (f := cI) (l := a1)) ?_
   refine o_r1 [(7, (vI 0))] ?_
   refine o_end (k4 _ ?_)
   refine c_block fun E6 hE6 hO6 => ?_
   refine W1 (fun (x19 : Int) => ⟨(mkd .any 15 0 [(5, (vL cI a1)), (6, (vI (len a1))), (7, (vI x19))]), []⟩) (f49_l7 a1 (f49_k3)) h (wkm [5, 6, 7] wh_nil) (by intros; rw [f49_l7.eq_1]) ?_
   intro m7 x19 h N7 w7
   rw [f49_l7.eq_2] at h
   refine s_so fun N20 k20 w20 => ?_
   refine o_r1 [(8, (vB (decide (x19 < (len a1)))))] ?_
   refine o_end (k20 _ ?_)
   refine s_seq fun N21 k21 w21 => ?_
   refine i_c [8] h (fun h => ?_) (fun h => ?_)
   · refine c_skip (k21 _ ?_)
     refine s_seq fun N23 k23 w23 => ?_
     refine c_block fun E24 hE24 hO24 => ?_
     refine s_so fun N25 k25 w25 => ?_
     refine bnd h fun x26 g27 h => ?_
     refine o_o (one_ia (f := cI) (ki := .i64) g27) ?_
     refine o_r2 [(4, (vI x26)), (10, (vI x26))] ?_
     refine o_end (k25 _ ?_)
     refine s_so fun N28 k28 w28 => ?_
     refine o_r2 [(11, (vI x26)), (12, (vB (x26 != 0)))] ?_
     refine o_end (k28 _ ?_)
     refine i_c [12] h (fun h => ?_) (fun h => ?_)
     · refine s_so fun N30 k30 w30 => ?_
       refine o_r2 [(2, (vI x26)), (13, (vI x26))] ?_
       refine o_end (k30 _ ?_)
       exact c_ret (rets [] [(vI x26)] [(vI x26)] h)
     · refine c_skip (k23 _ ?_)
       refine c_ops ?_
       refine o_r2 [(7, (vI (wr .i64 (x19 + 1)))), (14, (vI (wr .i64 (x19 + 1))))] ?_
       exact o_end (w7 _ _ (wkm [5, 6, 7] wh_nil) h)
   · refine c_exit (hE6 _ ?_)
     exact w3 _ (wkm [] wh_nil) h
theorem ic16 : fnIC Try.prog H0 16 = some ([.tmp 2], 71, (.seq (.ops [zO 2 (.mov (.c (.int .i64 0)))]) (.seq (.seq (.ops [zM 10 0, zO 11 (.len false (.t 10)), zO 12 (.sc (.bin .gtr 3) [(.t 11), (.c (.int .i64 24))])]) (.cond (.t 12)
  (.seq (.ops [zO 2 (.mov (.c (.int .i64 3)))]) .ret)
  .skip)) (.seq (.seq (.ops [zM 13 0, zO 14 (.len false (.t 13)), zO 15 (.mov (.c (.int .i64 0)))]) (.block 0 (.loop (.seq (.ops [zO 16 (.sc (.bin .lss 3) [(.t 15), (.t 14)])]) (.seq (.cond (.t 16)
  .skip
  (.exit 0)) (.seq (.block 1 (.seq (.ops [zM 17 15, zO 18 (.iaddr 2 (.t 13) (.t 15)), zO 19 (.ld (.t 18) 2 true), zO 4 (.alloc 0 91 [(1, 93, 3, 0)] [(.string ⟨#[]⟩), (.slice none 0 0)]), zM 3 17, zU (.st true 2 [(1, 93, 3, 0)] (.t 4) (.t 19))]) (.seq (.draw [] [zQ (zO 20 (.faddr (.t 4) 0)), zQ (zO 21 (.ld (.t 20) 1 false)), zQ (zO 22 (.call 51 [(.t 21)])), zQ (zO 23 (.call 50 [(.t 22), (.c (.int .i64 4))])), zQ (zM 24 0), zQ (zM 25 3), zQ (zO 26 (.lsl 2 (.t 24) none (some (.t 25)))), zQ (zO 27 (.faddr (.t 4) 0)), zQ (zO 28 (.ld (.t 27) 1 false)), zQ (zO 29 (.call 52 [(.t 26), (.t 28)])), zQ (zO 30 (.sc (.bin .lss 3) [(.t 29), (.c (.int .i64 0))])), zQ (zO 31 (.call 50 [(.t 30), (.c (.int .i64 6))])), zQ (zO 32 (.faddr (.t 4) 1)), zQ (zO 33 (.ld (.t 32) 1 false)), zQ (zO 34 (.call 53 [(.t 33)])), zQ (zO 35 (.isl 1 [(.t 23), (.t 31), (.t 34)])), zQ (zO 36 (.call 49 [(.t 35)])), zQ (zM 5 36)]) (.seq (.ops [zM 37 5, zO 38 (.sc (.bin .neq 30) [(.t 37), (.c (.int .i64 0))])]) (.cond (.t 38)
  (.seq (.ops [zM 39 5, zM 2 39]) .ret)
  .skip))))) (.ops [zO 40 (.sc (.bin .add 3) [(.t 15), (.c (.int .i64 1))]), zM 15 40]))))))) (.seq (.seq (.ops [zM 41 0, zO 42 (.len false (.t 41)), zO 43 (.mov (.c (.int .i64 0)))]) (.block 2 (.loop (.seq (.ops [zO 44 (.sc (.bin .lss 3) [(.t 43), (.t 42)])]) (.seq (.cond (.t 44)
  .skip
  (.exit 2)) (.seq (.block 3 (.seq (.ops [zO 45 (.iaddr 2 (.t 41) (.t 43)), zO 46 (.ld (.t 45) 2 true), zO 7 (.alloc 0 91 [(1, 93, 3, 0)] [(.string ⟨#[]⟩), (.slice none 0 0)]), zU (.st true 2 [(1, 93, 3, 0)] (.t 7) (.t 46))]) (.seq (.ops [zO 47 (.faddr (.t 7) 1), zO 48 (.ld (.t 47) 1 false), zO 49 (.len false (.t 48)), zO 50 (.mov (.c (.int .i64 0)))]) (.block 4 (.loop (.seq (.ops [zO 51 (.sc (.bin .lss 3) [(.t 50), (.t 49)])]) (.seq (.cond (.t 51)
  .skip
  (.exit 4)) (.seq (.block 5 (.seq (.ops [zO 52 (.iaddr 3 (.t 48) (.t 50)), zO 53 (.ld (.t 52) 3 true), zO 9 (.alloc 0 93 [] [(.string ⟨#[]⟩), (.int .i64 0), (.string ⟨#[]⟩)]), zU (.st true 3 [] (.t 9) (.t 53))]) (.seq (.ops [zO 54 (.faddr (.t 9) 1), zO 55 (.ld (.t 54) 1 false), zO 56 (.sc (.bin .eql 3) [(.t 55), (.c (.int .i64 3))]), zM 57 56, zG 58 57 true (.faddr (.t 9) 2), zG 59 57 true (.ld (.t 58) 1 false), zG 60 57 true (.sc (.bin .neq 9) [(.t 59), (.c (.string ⟨#[65, 78, 89]⟩))]), zO 61 (.pick (.t 57) (.t 60) (.c (.bool false))), zM 62 61, zN 63 62 true 0, zG 64 62 true (.faddr (.t 9) 2), zG 65 62 true (.ld (.t 64) 1 false), zG 66 62 true (.call 52 [(.t 63), (.t 65)]), zG 67 62 true (.sc (.bin .lss 3) [(.t 66), (.c (.int .i64 0))]), zO 68 (.pick (.t 62) (.t 67) (.c (.bool false)))]) (.cond (.t 68)
  (.seq (.ops [zO 2 (.mov (.c (.int .i64 5)))]) .ret)
  .skip)))) (.ops [zO 69 (.sc (.bin .add 3) [(.t 50), (.c (.int .i64 1))]), zM 50 69]))))))))) (.ops [zO 70 (.sc (.bin .add 3) [(.t 43), (.c (.int .i64 1))]), zM 43 70]))))))) (.seq (.ops [zO 2 (.mov (.c (.int .i64 0)))]) .ret)))))) := by kernel_rfl
def f16_k157 (x148 : Int) (c130k : Int → Option Int) (x163 : Bool) : Option Int := (bif x163 then some 5 else (c130k (wr .i64 (x148 + 1))))
def f16_k122 (x118 : Int) (c70k : Int → Option Int) : Option Int := (c70k (wr .i64 (x118 + 1)))
def f16_l130 (x125 : Form) (n : Nat) (a1 : (List Form)) (k122k : Option Int) : Nat → Int → Option Int
  | 0, _ => none
  | m130 + 1, x148 => (bif (decide (x148 < (len x125.fCols))) then ((gi x125.fCols x148).bind fun x155 => (bif (x155.fKind == 3) then (bif (!(sEqF x155.fClass (ByteArray.mk #[65, 78, 89]))) then ((f52 n a1 x155.fClass).bind fun r161 => (f16_k157 x148 (f16_l130 x125 n a1 (k122k) m130) (decide (r161 < 0)))) else (f16_k157 x148 (f16_l130 x125 n a1 (k122k) m130) false)) else (f16_k157 x148 (f16_l130 x125 n a1 (k122k) m130) false))) else (k122k))
def f16_k66 : Option Int := some 0
def f16_l70 (a1 : (List Form)) (n : Nat) (k66k : Option Int) : Nat → Int → Option Int
  | 0, _ => none
  | m70 + 1, x118 => (bif (decide (x118 < (len a1))) then ((gi a1 x118).bind fun x125 => (f16_l130 x125 n a1 (f16_k122 x118 (f16_l70 a1 n (k66k) m70)) n 0)) else (k66k))
def f16_k8 (n : Nat) (a1 : (List Form)) : Option Int := (f16_l70 a1 n (f16_k66) n 0)
def f16_l12 (a1 : (List Form)) (n : Nat) (k8k : Option Int) : Nat → Int → Option Int
  | 0, _ => none
  | m12 + 1, x39 => (bif (decide (x39 < (len a1))) then ((gi a1 x39).bind fun x46 => ((f51 n x46.fName).bind fun r49 => ((f50 n r49 4).bind fun r51 => ((sli a1 0 x39).bind fun l53 => ((f52 n l53 x46.fName).bind fun r55 => ((f50 n (decide (r55 < 0)) 6).bind fun r57 => ((f53 n x46.fCols).bind fun r59 => ((f49 n [r51, r57, r59]).bind fun r61 => (bif (r61 != 0) then some r61 else (f16_l12 a1 n (k8k) m12 (wr .i64 (x39 + 1)))))))))))) else (k8k))
def f16 (n : Nat) (a1 : (List Form)) : Option Int := (bif (decide ((len a1) > 24)) then some 3 else (f16_l12 a1 n (f16_k8 n a1) n 0))
def f16_r (r : Int) : AV := (vI r)
theorem p_f16 {n : Nat} {a1 : (List Form)} {r : Int} (h : f16 n a1 = some r) : PureSpec Try.prog 16 [(vL Form.c a1)] (f16_r r) := by
 rw [f16.eq_1] at h
 refine pure_of hmix ic16 ?_
 refine go_to (mkd (.val undef) 71 0 [(0, (vL Form.c a1))]) ?_
 refine s_so fun N2 k2 w2 => ?_
 refine o_r1 [(2, (vI 0))] ?_
 refine o_end (k2 _ ?_)
 refine s_seq fun N3 k3 w3 => ?_
 refine s_so fun N4 k4 w4 => ?_
 refine o_r1 [(10, (vL Form.c a1))] ?_
 refine o_o (one_len (f := Form.c) (l := a1)) ?_
 refine o_r1 [(12, (vB (decide ((len a1) > 24))))] ?_
 refine o_end (k4 _ ?_)
 refine i_c [12] h (fun h => ?_) (fun h => ?_)
 · refine s_so fun N7 k7 w7 => ?_
   refine o_r1 [(2, (vI 3))] ?_
   refine o_end (k7 _ ?_)
   exact c_ret (rets [] [(vI 3)] [(vI 3)] h)
 · refine c_skip (k3 _ ?_)
   refine J0 (r := r) ⟨(mkd .any 71 0 [(0, (vL Form.c a1))]), []⟩ (f16_k8 n a1) ?_ ?_
   · intro h
     rw [f16_k8.eq_1] at h
     refine J0 (r := r) ⟨(mkd .any 71 0 []), []⟩ (f16_k66) ?_ ?_
     · intro h
       rw [f16_k66.eq_1] at h
       refine s_so fun N166 k166 w166 => ?_
       refine o_r1 [(2, (vI 0))] ?_
       refine o_end (k166 _ ?_)
       exact c_ret (rets [] [(vI 0)] [(vI 0)] h)
     · intro N66 w66
       refine s_so fun N67 k67 w67 => ?_
       refine o_r1 [(41, (vL Form.c a1))] ?_
       refine o_o (one_len (f := Form.c) (l := a1)) ?_
       refine o_r1 [(43, (vI 0))] ?_
       refine o_end (k67 _ ?_)
       refine c_block fun E69 hE69 hO69 => ?_
       refine W1 (fun (x118 : Int) => ⟨(mkd .any 71 0 [(0, (vL Form.c a1)), (41, (vL Form.c a1)), (42, (vI (len a1))), (43, (vI x118))]), []⟩) (f16_l70 a1 n (f16_k66)) h (wkm [0, 41, 42, 43] wh_nil) (by intros; rw [f16_l70.eq_1]) ?_
       intro m70 x118 h N70 w70
       rw [f16_l70.eq_2] at h
       refine s_so fun N119 k119 w119 => ?_
       refine o_r1 [(44, (vB (decide (x118 < (len a1)))))] ?_
       refine o_end (k119 _ ?_)
       refine s_seq fun N120 k120 w120 => ?_
       refine i_c [44] h (fun h => ?_) (fun h => ?_)
       · refine c_skip (k120 _ ?_)
         refine J0 (r := r) ⟨(mkd .any 71 0 [(0, (vL Form.c a1)), (41, (vL Form.c a1)), (42, (vI (len a1))), (43, (vI x118))]), []⟩ (f16_k122 x118 (f16_l70 a1 n (f16_k66) m70)) ?_ ?_
         · intro h
           rw [f16_k122.eq_1] at h
           refine c_ops ?_
           refine o_r2 [(43, (vI (wr .i64 (x118 + 1)))), (70, (vI (wr .i64 (x118 + 1))))] ?_
           exact o_end (w70 _ _ (wkm [0, 41, 42, 43] wh_nil) h)
         · intro N122 w122
           refine c_block fun E123 hE123 hO123 => ?_
           refine s_so fun N124 k124 w124 => ?_
           refine bnd h fun x125 g126 h => ?_
           refine o_o (one_ia (f := Form.c) (ki := .i64) g126) ?_
           refine o_h3 [(7, (.ptr 1 0)), (46, (.agg [(vS x125.fName), (vL Col.c x125.fCols)]))] [(some (.row 93 3 (List.map Col.c []))), (some (.box 91 [(vS x125.fName), (vL Col.c x125.fCols)]))] ?_
           refine o_end (k124 _ ?_)
           refine s_so fun N127 k127 w127 => ?_
           refine o_r2 [(47, (.ptr 1 1)), (48, (vL Col.c x125.fCols))] ?_
           refine o_o (one_len (f := Col.c) (l := x125.fCols)) ?_
           refine o_r1 [(50, (vI 0))] ?_
           refine o_end (k127 _ ?_)
           refine c_block fun E129 hE129 hO129 => ?_
           refine W1 (fun (x148 : Int) => ⟨(mkd .any 71 0 [(0, (vL Form.c a1)), (41, (vL Form.c a1)), (42, (vI (len a1))), (43, (vI x118)), (48, (vL Col.c x125.fCols)), (49, (vI (len x125.fCols))), (50, (vI x148))]), []⟩) (f16_l130 x125 n a1 (f16_k122 x118 (f16_l70 a1 n (f16_k66) m70))) h (wkm [0, 41, 42, 43, 48, 49, 50] wh_nil) (by intros; rw [f16_l130.eq_1]) ?_
           intro m130 x148 h N130 w130
           rw [f16_l130.eq_2] at h
           refine s_so fun N149 k149 w149 => ?_
           refine o_r1 [(51, (vB (decide (x148 < (len x125.fCols)))))] ?_
           refine o_end (k149 _ ?_)
           refine s_seq fun N150 k150 w150 => ?_
           refine i_c [51] h (fun h => ?_) (fun h => ?_)
           · refine c_skip (k150 _ ?_)
             refine s_seq fun N152 k152 w152 => ?_
             refine c_block fun E153 hE153 hO153 => ?_
             refine s_so fun N154 k154 w154 => ?_
             refine bnd h fun x155 g156 h => ?_
             refine o_o (one_ia (f := Col.c) (ki := .i64) g156) ?_
             refine o_h3 [(9, (.ptr 0 0)), (53, (.agg [(vS x155.fName), (vI x155.fKind), (vS x155.fClass)]))] [(some (.box 93 [(vS x155.fName), (vI x155.fKind), (vS x155.fClass)]))] ?_
             refine o_end (k154 _ ?_)
             refine J1 (r := r) (fun (x163 : Bool) => ⟨(mkd .any 71 0 [(0, (vL Form.c a1)), (41, (vL Form.c a1)), (42, (vI (len a1))), (43, (vI x118)), (48, (vL Col.c x125.fCols)), (49, (vI (len x125.fCols))), (50, (vI x148)), (68, (vB x163))]), []⟩) (f16_k157 x148 (f16_l130 x125 n a1 (f16_k122 x118 (f16_l70 a1 n (f16_k66) m70)) m130)) ?_ ?_
             · intro x163 h
               rw [f16_k157.eq_1] at h
               refine i_c [68] h (fun h => ?_) (fun h => ?_)
               · refine s_so fun N165 k165 w165 => ?_
                 refine o_r1 [(2, (vI 5))] ?_
                 refine o_end (k165 _ ?_)
                 exact c_ret (rets [] [(vI 5)] [(vI 5)] h)
               · refine c_skip (k152 _ ?_)
                 refine c_ops ?_
                 refine o_r2 [(50, (vI (wr .i64 (x148 + 1)))), (69, (vI (wr .i64 (x148 + 1))))] ?_
                 exact o_end (w130 _ _ (wkm [0, 41, 42, 43, 48, 49, 50] wh_nil) h)
             · intro N157 w157
               refine c_ops ?_
               refine o_r4 [(54, (.ptr 0 1)), (55, (vI x155.fKind)), (56, (vB (x155.fKind == 3))), (57, (vB (x155.fKind == 3)))] ?_
               refine i_o [56, 57] h (fun h => ?_) (fun h => ?_)
               · refine o_r2 [(58, (.ptr 0 2)), (59, (vS x155.fClass))] ?_
                 refine o_g ?_
                 refine o_o (one_sc (vs := [.string x155.fClass, .string (ByteArray.mk #[65, 78, 89])]) (str_neq x155.fClass (ByteArray.mk #[65, 78, 89]))) ?_
                 refine o_r2 [(61, (vB (!(sEqF x155.fClass (ByteArray.mk #[65, 78, 89]))))), (62, (vB (!(sEqF x155.fClass (ByteArray.mk #[65, 78, 89])))))] ?_
                 refine i_o [60, 61, 62] h (fun h => ?_) (fun h => ?_)
                 · refine o_r3 [(63, (vL Form.c a1)), (64, (.ptr 0 2)), (65, (vS x155.fClass))] ?_
                   refine bnd h fun r161 g162 h => ?_
                   refine o_g ?_
                   refine o_o (one_call (p_f52 g162)) ?_
                   refine o_r2 [(67, (vB (decide (r161 < 0)))), (68, (vB (decide (r161 < 0))))] ?_
                   refine s_tm (mkd .any 71 0 [(0, (vL Form.c a1)), (9, (.ptr 0 0)), (41, (vL Form.c a1)), (42, (vI (len a1))), (43, (vI x118)), (48, (vL Col.c x125.fCols)), (49, (vI (len x125.fCols))), (50, (vI x148)), (51, (vB true)), (52, (.iptr [(vS x155.fName), (vI x155.fKind), (vS x155.fClass)])), (53, (.agg [(vS x155.fName), (vI x155.fKind), (vS x155.fClass)])), (54, (.ptr 0 1)), (55, (vI x155.fKind)), (56, (vB true)), (57, (vB true)), (58, (.ptr 0 2)), (59, (vS x155.fClass)), (60, (vB true)), (61, (vB true)), (62, (vB true)), (63, (vL Form.c a1)), (64, (.ptr 0 2)), (65, (vS x155.fClass)), (66, (vI r161)), (67, (vB (decide (r161 < 0)))), (68, (vB (decide (r161 < 0))))]) ?_
                   exact o_end (w157 _ _ (wkm [0, 41, 42, 43, 48, 49, 50, 68] wh_nil) h)
                 · refine o_r6 [(63, (.val undef)), (64, (.val undef)), (65, (.val undef)), (66, (.val undef)), (67, (.val undef)), (68, (vB false))] ?_
                   exact o_end (w157 _ _ (wkm [0, 41, 42, 43, 48, 49, 50, 68] wh_nil) h)
               · refine o_r11 [(58, (.val undef)), (59, (.val undef)), (60, (.val undef)), (61, (vB false)), (62, (vB false)), (63, (.val undef)), (64, (.val undef)), (65, (.val undef)), (66, (.val undef)), (67, (.val undef)), (68, (vB false))] ?_
                 exact o_end (w157 _ _ (wkm [0, 41, 42, 43, 48, 49, 50, 68] wh_nil) h)
           · refine c_exit (hE129 _ ?_)
             exact w122 _ (wkm [0, 41, 42, 43] wh_nil) h
       · refine c_exit (hE69 _ ?_)
         exact w66 _ (wkm [] wh_nil) h
   · intro N8 w8
     refine s_so fun N9 k9 w9 => ?_
     refine o_r1 [(13, (vL Form.c a1))] ?_
     refine o_o (one_len (f := Form.c) (l := a1)) ?_
     refine o_r1 [(15, (vI 0))] ?_
     refine o_end (k9 _ ?_)
     refine c_block fun E11 hE11 hO11 => ?_
     refine W1 (fun (x39 : Int) => ⟨(mkd .any 71 0 [(0, (vL Form.c a1)), (13, (vL Form.c a1)), (14, (vI (len a1))), (15, (vI x39))]), []⟩) (f16_l12 a1 n (f16_k8 n a1)) h (wkm [0, 13, 14, 15] wh_nil) (by intros; rw [f16_l12.eq_1]) ?_
     intro m12 x39 h N12 w12
     rw [f16_l12.eq_2] at h
     refine s_so fun N40 k40 w40 => ?_
     refine o_r1 [(16, (vB (decide (x39 < (len a1)))))] ?_
     refine o_end (k40 _ ?_)
     refine s_seq fun N41 k41 w41 => ?_
     refine i_c [16] h (fun h => ?_) (fun h => ?_)
     · refine c_skip (k41 _ ?_)
       refine s_seq fun N43 k43 w43 => ?_
       refine c_block fun E44 hE44 hO44 => ?_
       refine s_so fun N45 k45 w45 => ?_
       refine o_r1 [(17, (vI x39))] ?_
       refine bnd h fun x46 g47 h => ?_
       refine o_o (one_ia (f := Form.c) (ki := .i64) g47) ?_
       refine o_h4 [(3, (vI x39)), (4, (.ptr 1 0)), (19, (.agg [(vS x46.fName), (vL Col.c x46.fCols)]))] [(some (.row 93 3 (List.map Col.c []))), (some (.box 91 [(vS x46.fName), (vL Col.c x46.fCols)]))] ?_
       refine o_end (k45 _ ?_)
       refine s_seq fun N48 k48 w48 => ?_
       refine c_draw0 ?_
       refine d_r2 [(20, (.ptr 1 0)), (21, (vS x46.fName))] ?_
       refine bnd h fun r49 g50 h => ?_
       refine d_o (one_call (p_f51 g50)) ?_
       refine bnd h fun r51 g52 h => ?_
       refine d_o (one_call (p_f50 g52)) ?_
       refine d_r2 [(24, (vL Form.c a1)), (25, (vI x39))] ?_
       refine bnd h fun l53 g54 h => ?_
       refine d_o (one_lsl (f := Form.c) g54 (fun _ => rfl)) ?_
       refine d_r2 [(27, (.ptr 1 0)), (28, (vS x46.fName))] ?_
       refine bnd h fun r55 g56 h => ?_
       refine d_o (one_call (p_f52 g56)) ?_
       refine d_r1 [(30, (vB (decide (r55 < 0))))] ?_
       refine t_tm (mkd .any 71 0 [(0, (vL Form.c a1)), (3, (vI x39)), (4, (.ptr 1 0)), (13, (vL Form.c a1)), (14, (vI (len a1))), (15, (vI x39)), (16, (vB true)), (17, (vI x39)), (18, (.iptr [(vS x46.fName), (vL Col.c x46.fCols)])), (19, (.agg [(vS x46.fName), (vL Col.c x46.fCols)])), (20, (.ptr 1 0)), (21, (vS x46.fName)), (22, (vB r49)), (23, (vI r51)), (24, (vL Form.c a1)), (25, (vI x39)), (26, (vL Form.c l53)), (27, (.ptr 1 0)), (28, (vS x46.fName)), (29, (vI r55)), (30, (vB (decide (r55 < 0))))]) ?_
       refine bnd h fun r57 g58 h => ?_
       refine d_o (one_call (p_f50 g58)) ?_
       refine d_r2 [(32, (.ptr 1 1)), (33, (vL Col.c x46.fCols))] ?_
       refine bnd h fun r59 g60 h => ?_
       refine d_o (one_call (p_f53 g60)) ?_
       refine d_r1 [(35, (vL cI [r51, r57, r59]))] ?_
       refine bnd h fun r61 g62 h => ?_
       refine d_o (one_call (p_f49 g62)) ?_
       refine d_r1 [(5, (vI r61))] ?_
       refine d_end (w48 _ ⟨(mkd .any 71 0 [(0, (vL Form.c a1)), (5, (vI r61)), (13, (vL Form.c a1)), (14, (vI (len a1))), (15, (vI x39))]), []⟩ (wkm [0, 5, 13, 14, 15] wh_nil) ?_)
       refine s_so fun N63 k63 w63 => ?_
       refine o_r2 [(37, (vI r61)), (38, (vB (r61 != 0)))] ?_
       refine o_end (k63 _ ?_)
       refine i_c [38] h (fun h => ?_) (fun h => ?_)
       · refine s_so fun N65 k65 w65 => ?_
         refine o_r2 [(2, (vI r61)), (39, (vI r61))] ?_
         refine o_end (k65 _ ?_)
         exact c_ret (rets [] [(vI r61)] [(vI r61)] h)
       · refine c_skip (k43 _ ?_)
         refine c_ops ?_
         refine o_r2 [(15, (vI (wr .i64 (x39 + 1)))), (40, (vI (wr .i64 (x39 + 1))))] ?_
         exact o_end (w12 _ _ (wkm [0, 13, 14, 15] wh_nil) h)
     · refine c_exit (hE11 _ ?_)
       exact w8 _ (wkm [0] wh_nil) h
def f130 (n : Nat) : Option (List ByteArray) := some [(ByteArray.mk #[58, 61]), (ByteArray.mk #[47, 61]), (ByteArray.mk #[60, 61]), (ByteArray.mk #[62, 61]), (ByteArray.mk #[47, 47]), (ByteArray.mk #[61]), (ByteArray.mk #[60]), (ByteArray.mk #[62]), (ByteArray.mk #[43]), (ByteArray.mk #[45]), (ByteArray.mk #[42]), (ByteArray.mk #[37]), (ByteArray.mk #[40]), (ByteArray.mk #[41]), (ByteArray.mk #[91]), (ByteArray.mk #[93]), (ByteArray.mk #[123]), (ByteArray.mk #[125]), (ByteArray.mk #[44]), (ByteArray.mk #[59]), (ByteArray.mk #[58]), (ByteArray.mk #[46])]
def f129_k4 : Option Bool := some false
def f129_l7 (a1 : (List ByteArray)) (a2 : ByteArray) (k4k : Option Bool) : Nat → Int → Option Bool
  | 0, _ => none
  | m7 + 1, x20 => (bif (decide (x20 < (len a1))) then ((gi a1 x20).bind fun x28 => (bif (sEqF x28 a2) then some true else (f129_l7 a1 a2 (k4k) m7 (wr .i64 (x20 + 1))))) else (k4k))
def f129 (n : Nat) (a1 : (List ByteArray)) (a2 : ByteArray) : Option Bool := (f129_l7 a1 a2 (f129_k4) n 0)
def f148_k3 (x5 : Bool) : Option Bool := some x5
def f148 (n : Nat) (a1 : Int) : Option Bool := (bif (decide (a1 ≥ 97)) then (f148_k3 (decide (a1 ≤ 122))) else (f148_k3 false))
def f149_k3 (x5 : Bool) : Option Bool := some x5
def f149 (n : Nat) (a1 : Int) : Option Bool := (bif (decide (a1 ≥ 65)) then (f149_k3 (decide (a1 ≤ 90))) else (f149_k3 false))
def f132_k3 (x5 : Bool) : Option Bool := some x5
def f132 (n : Nat) (a1 : Int) : Option Bool := (bif (decide (a1 ≥ 48)) then (f132_k3 (decide (a1 ≤ 57))) else (f132_k3 false))
def f146_k3 (x13 : Bool) : Option Bool := some x13
def f146 (n : Nat) (a1 : Int) : Option Bool := ((f148 n a1).bind fun r4 => (bif r4 then (f146_k3 true) else ((f149 n a1).bind fun r7 => (bif r7 then (f146_k3 true) else ((f132 n a1).bind fun r10 => (bif r10 then (f146_k3 true) else (f146_k3 (a1 == 95))))))))
def f131_k5 (x29 : Int) : Option Int := some x29
def f131_k20 (x18 : Int) (c7k : Int → Option Int) (k5k : Int → Option Int) (x26 : Bool) : Option Int := (bif x26 then (c7k (wr .i64 (x18 + 1))) else (k5k x18))
def f131_l7 (a2 : Int) (a1 : ByteArray) (n : Nat) (k5k : Int → Option Int) : Nat → Int → Option Int
  | 0, _ => none
  | m7 + 1, x18 => (bif (decide ((wr .i64 (a2 + x18)) < (bsz a1))) then ((si a1 (wr .i64 (a2 + x18))).bind fun c22 => ((f146 n c22).bind fun r24 => (f131_k20 x18 (f131_l7 a2 a1 n (k5k) m7) (k5k) r24))) else (f131_k20 x18 (f131_l7 a2 a1 n (k5k) m7) (k5k) false))
def f131 (n : Nat) (a1 : ByteArray) (a2 : Int) : Option Int := (f131_l7 a2 a1 n (f131_k5) n 0)
def f133_k41 (x69 : Int) : Option NE := some (NE.mk x69 0)
def f133_l44 (a1 : ByteArray) (k41k : Int → Option NE) : Nat → Int → Int → Option NE
  | 0, _, _ => none
  | m44 + 1, x56, x57 => (bif (decide (x57 < (bsz a1))) then ((si a1 x57).bind fun c64 => (bif (decide ((wr .i64 ((wr .i64 ((wr .i64 (10 * x56)) + (wr .i64 c64))) - 48)) > 1099511627776)) then some (NE.mk 0 3) else (f133_l44 a1 (k41k) m44 (wr .i64 ((wr .i64 ((wr .i64 (10 * x56)) + (wr .i64 c64))) - 48)) (wr .i64 (x57 + 1))))) else (k41k x56))
def f133_k33 (n : Nat) (a1 : ByteArray) (x37 : Bool) : Option NE := (bif x37 then some (NE.mk 0 2) else (f133_l44 a1 (f133_k41) n 0 0))
def f133_k3 (a1 : ByteArray) (n : Nat) : Option NE := ((si a1 0).bind fun c34 => (bif (c34 == 48) then (f133_k33 n a1 (decide ((bsz a1) > 1))) else (f133_k33 n a1 false)))
def f133_l6 (a1 : ByteArray) (n : Nat) (k3k : Option NE) : Nat → Int → Option NE
  | 0, _ => none
  | m6 + 1, x19 => (bif (decide (x19 < (bsz a1))) then ((si a1 x19).bind fun c26 => ((f132 n c26).bind fun r28 => (bif (!r28) then some (NE.mk 0 2) else (f133_l6 a1 n (k3k) m6 (wr .i64 (x19 + 1)))))) else (k3k))
def f133 (n : Nat) (a1 : ByteArray) : Option NE := (f133_l6 a1 n (f133_k3 a1 n) n 0)
def f147 (n : Nat) : Option (List ByteArray) := some [(ByteArray.mk #[97, 110, 100]), (ByteArray.mk #[97, 115]), (ByteArray.mk #[97, 116, 116, 97, 99, 104, 101, 100]), (ByteArray.mk #[99, 104, 101, 99, 107]), (ByteArray.mk #[99, 108, 97, 115, 115]), (ByteArray.mk #[99, 114, 101, 97, 116, 101]), (ByteArray.mk #[100, 101, 102, 101, 114, 114, 101, 100]), (ByteArray.mk #[100, 101, 116, 97, 99, 104, 97, 98, 108, 101]), (ByteArray.mk #[100, 111]), (ByteArray.mk #[101, 108, 115, 101]), (ByteArray.mk #[101, 110, 100]), (ByteArray.mk #[101, 110, 115, 117, 114, 101]), (ByteArray.mk #[102, 101, 97, 116, 117, 114, 101]), (ByteArray.mk #[102, 114, 111, 109]), (ByteArray.mk #[105, 102]), (ByteArray.mk #[105, 109, 112, 108, 105, 101, 115]), (ByteArray.mk #[105, 110, 104, 101, 114, 105, 116]), (ByteArray.mk #[105, 110, 118, 97, 114, 105, 97, 110, 116]), (ByteArray.mk #[108, 111, 99, 97, 108]), (ByteArray.mk #[108, 111, 111, 112]), (ByteArray.mk #[110, 111, 116]), (ByteArray.mk #[111, 108, 100]), (ByteArray.mk #[111, 114]), (ByteArray.mk #[112, 117, 116]), (ByteArray.mk #[114, 97, 105, 115, 101]), (ByteArray.mk #[114, 101, 100, 101, 102, 105, 110, 101]), (ByteArray.mk #[114, 101, 110, 97, 109, 101]), (ByteArray.mk #[114, 101, 113, 117, 105, 114, 101]), (ByteArray.mk #[114, 101, 115, 99, 117, 101]), (ByteArray.mk #[114, 101, 116, 114, 121]), (ByteArray.mk #[115, 101, 108, 101, 99, 116]), (ByteArray.mk #[115, 101, 112, 97, 114, 97, 116, 101]), (ByteArray.mk #[116, 104, 101, 110]), (ByteArray.mk #[117, 110, 100, 101, 102, 105, 110, 101]), (ByteArray.mk #[117, 110, 116, 105, 108]), (ByteArray.mk #[118, 97, 114, 105, 97, 110, 116]), (ByteArray.mk #[119, 104, 101, 110])]
def f134_k47 (x43 : Int) (c26k : Bool → Bool → Int → Option KE) (x61 : Bool) (x62 : Bool) : Option KE := (c26k x62 x61 (wr .i64 (x43 + 1)))
def f134_k49 (x42 : Bool) (a1 : ByteArray) (x43 : Int) (n : Nat) (c26k : Bool → Bool → Int → Option KE) (x55 : Bool) : Option KE := (bif x42 then (f134_k47 x43 (c26k) true x55) else ((si a1 x43).bind fun c57 => ((f149 n c57).bind fun r59 => (f134_k47 x43 (c26k) r59 x55))))
def f134_k66 (a1 : ByteArray) (x68 : Bool) (x69 : Bool) : Option KE := (bif x69 then some (KE.mk 0 2) else (bif (decide ((bsz a1) > 20)) then some (KE.mk 0 3) else (bif x68 then some (KE.mk 1 0) else some (KE.mk 2 0))))
def f134_k23 (a1 : ByteArray) (x63 : Bool) (x64 : Bool) : Option KE := (bif x63 then (f134_k66 a1 true x64) else (f134_k66 a1 false false))
def f134_l26 (a1 : ByteArray) (n : Nat) (k23k : Bool → Bool → Option KE) : Nat → Bool → Bool → Int → Option KE
  | 0, _, _, _ => none
  | m26 + 1, x41, x42, x43 => (bif (decide (x43 < (bsz a1))) then (bif x41 then (f134_k49 x42 a1 x43 n (f134_l26 a1 n (k23k) m26) true) else ((si a1 x43).bind fun c51 => ((f148 n c51).bind fun r53 => (f134_k49 x42 a1 x43 n (f134_l26 a1 n (k23k) m26) r53)))) else (k23k x41 x42))
def f134_k4 (n : Nat) (a1 : ByteArray) (x12 : Bool) : Option KE := (bif x12 then some (KE.mk 3 0) else ((f129 n [(ByteArray.mk #[116, 114, 117, 101]), (ByteArray.mk #[102, 97, 108, 115, 101]), (ByteArray.mk #[118, 111, 105, 100]), (ByteArray.mk #[99, 117, 114, 114, 101, 110, 116]), (ByteArray.mk #[114, 101, 115, 117, 108, 116])] a1).bind fun r17 => (bif r17 then some (KE.mk 0 4) else (f134_l26 a1 n (f134_k23 a1) n false false 0))))
def f134 (n : Nat) (a1 : ByteArray) : Option KE := ((f147 n).bind fun r5 => ((f129 n r5 a1).bind fun r7 => (bif r7 then (f134_k4 n a1 true) else ((f129 n [(ByteArray.mk #[84, 114, 117, 101]), (ByteArray.mk #[70, 97, 108, 115, 101]), (ByteArray.mk #[86, 111, 105, 100]), (ByteArray.mk #[67, 117, 114, 114, 101, 110, 116]), (ByteArray.mk #[82, 101, 115, 117, 108, 116])] a1).bind fun r10 => (f134_k4 n a1 r10)))))
def f96_k12 (a1 : ByteArray) (n : Nat) (x19 : Bool) : Option KE := (bif x19 then some (KE.mk 0 2) else ((si a1 0).bind fun c24 => ((f132 n c24).bind fun r26 => (bif r26 then ((f133 n a1).bind fun r30 => (bif (r30.fE != 0) then some (KE.mk 0 r30.fE) else some (KE.mk 4 0))) else ((f134 n a1).bind fun r38 => some (KE.mk r38.fK r38.fE))))))
def f96 (n : Nat) (a1 : ByteArray) : Option KE := ((f130 n).bind fun r5 => ((f129 n r5 a1).bind fun r7 => (bif r7 then some (KE.mk 5 0) else (bif ((bsz a1) == 0) then (f96_k12 a1 n true) else ((f131 n a1 0).bind fun r14 => (bif (decide (r14 < (bsz a1))) then (f96_k12 a1 n true) else ((si a1 0).bind fun c17 => (f96_k12 a1 n (c17 == 95)))))))))
def f54_k6 (x16 : Bool) : Option Bool := some x16
def f54 (n : Nat) (a1 : ByteArray) : Option Bool := ((f96 n a1).bind fun r4 => (bif (r4.fE == 0) then (bif (r4.fK == 2) then (bif (!(sEqF a1 (ByteArray.mk #[73, 78, 84, 69, 71, 69, 82]))) then (bif (!(sEqF a1 (ByteArray.mk #[66, 79, 79, 76, 69, 65, 78]))) then (bif (!(sEqF a1 (ByteArray.mk #[65, 78, 89]))) then (f54_k6 (!(sEqF a1 (ByteArray.mk #[78, 79, 78, 69])))) else (f54_k6 false)) else (f54_k6 false)) else (f54_k6 false)) else (f54_k6 false)) else (f54_k6 false)))
def f55_k4 : Option Int := some (-1)
def f55_l7 (a1 : (List Form)) (a2 : ByteArray) (k4k : Option Int) : Nat → Int → Option Int
  | 0, _ => none
  | m7 + 1, x20 => (bif (decide (x20 < (len a1))) then ((gi a1 x20).bind fun x28 => (bif (sEqF x28.fName a2) then some x20 else (f55_l7 a1 a2 (k4k) m7 (wr .i64 (x20 + 1))))) else (k4k))
def f55 (n : Nat) (a1 : (List Form)) (a2 : ByteArray) : Option Int := (f55_l7 a1 a2 (f55_k4) n 0)
def f56_k61 (x55 : Int) (c18k : Int → Option Bool) (x88 : Bool) : Option Bool := (bif (!x88) then some false else (c18k (wr .i64 (x55 + 1))))
def f56_k92 (x102 : Bool) : Option Bool := some x102
def f56_k15 (a1 : ByteArray) : Option Bool := (bif (!(sEqF a1 (ByteArray.mk #[116, 114, 117, 101]))) then (bif (!(sEqF a1 (ByteArray.mk #[102, 97, 108, 115, 101]))) then (bif (!(sEqF a1 (ByteArray.mk #[118, 111, 105, 100]))) then (bif (!(sEqF a1 (ByteArray.mk #[99, 117, 114, 114, 101, 110, 116]))) then (f56_k92 (!(sEqF a1 (ByteArray.mk #[114, 101, 115, 117, 108, 116])))) else (f56_k92 false)) else (f56_k92 false)) else (f56_k92 false)) else (f56_k92 false))
def f56_l18 (a1 : ByteArray) (k15k : Option Bool) : Nat → Int → Option Bool
  | 0, _ => none
  | m18 + 1, x55 => (bif (decide (x55 < (bsz a1))) then ((si a1 x55).bind fun c62 => (bif (decide (c62 ≥ 97)) then ((si a1 x55).bind fun c65 => (bif (decide (c65 ≤ 122)) then (f56_k61 x55 (f56_l18 a1 (k15k) m18) true) else ((si a1 x55).bind fun c68 => (bif (decide (c68 ≥ 48)) then ((si a1 x55).bind fun c71 => (bif (decide (c71 ≤ 57)) then (f56_k61 x55 (f56_l18 a1 (k15k) m18) true) else ((si a1 x55).bind fun c74 => (f56_k61 x55 (f56_l18 a1 (k15k) m18) (c74 == 95))))) else ((si a1 x55).bind fun c76 => (f56_k61 x55 (f56_l18 a1 (k15k) m18) (c76 == 95))))))) else ((si a1 x55).bind fun c78 => (bif (decide (c78 ≥ 48)) then ((si a1 x55).bind fun c81 => (bif (decide (c81 ≤ 57)) then (f56_k61 x55 (f56_l18 a1 (k15k) m18) true) else ((si a1 x55).bind fun c84 => (f56_k61 x55 (f56_l18 a1 (k15k) m18) (c84 == 95))))) else ((si a1 x55).bind fun c86 => (f56_k61 x55 (f56_l18 a1 (k15k) m18) (c86 == 95))))))) else (k15k))
def f56_k4 (n : Nat) (a1 : ByteArray) (x12 : Bool) : Option Bool := (bif x12 then some false else (f56_l18 a1 (f56_k15 a1) n 0))
def f56 (n : Nat) (a1 : ByteArray) : Option Bool := (bif (decide ((bsz a1) < 1)) then (f56_k4 n a1 true) else (bif (decide ((bsz a1) > 20)) then (f56_k4 n a1 true) else ((si a1 0).bind fun c7 => (bif (decide (c7 < 97)) then (f56_k4 n a1 true) else ((si a1 0).bind fun c10 => (f56_k4 n a1 (decide (c10 > 122))))))))
def f57_k4 : Option Int := some (-1)
def f57_l7 (a1 : Form) (a2 : ByteArray) (k4k : Option Int) : Nat → Int → Option Int
  | 0, _ => none
  | m7 + 1, x20 => (bif (decide (x20 < (len a1.fCols))) then ((gi a1.fCols x20).bind fun x28 => (bif (sEqF x28.fName a2) then some x20 else (f57_l7 a1 a2 (k4k) m7 (wr .i64 (x20 + 1))))) else (k4k))
def f57 (n : Nat) (a1 : Form) (a2 : ByteArray) : Option Int := (f57_l7 a1 a2 (f57_k4) n 0)
def f58_k5 (x7 : Bool) : Option Bool := some x7
def f58 (n : Nat) (a1 : Int) (a2 : Int) (a3 : Int) : Option Bool := (bif (decide (a1 ≥ a2)) then (f58_k5 (decide (a1 ≤ a3))) else (f58_k5 false))
def f17_k220 (x191 : Int) (c153k : Int → Option Int) (x226 : Bool) : Option Int := (bif x226 then some 1 else (c153k (wr .i64 (x191 + 1))))
def f17_k125 (x120 : Int) (c11k : Int → Option Int) : Option Int := (c11k (wr .i64 (x120 + 1)))
def f17_l153 (a1 : (List Form)) (x120 : Int) (n : Nat) (k125k : Option Int) : Nat → Int → Option Int
  | 0, _ => none
  | m153 + 1, x191 => ((gi a1 x120).bind fun x194 => (bif (decide (x191 < (len x194.fCols))) then ((gi a1 x120).bind fun x201 => ((gi x201.fCols x191).bind fun x203 => ((f56 n x203.fName).bind fun r206 => (bif (!r206) then some 4 else ((gi a1 x120).bind fun x214 => ((f57 n x214 x203.fName).bind fun r216 => (bif (decide (r216 < x191)) then some 6 else ((f58 n x203.fKind 1 3).bind fun r221 => (bif (!r221) then (f17_k220 x191 (f17_l153 a1 x120 n (k125k) m153) true) else (bif (x203.fKind != 3) then (f17_k220 x191 (f17_l153 a1 x120 n (k125k) m153) (!(sEqF x203.fClass (ByteArray.mk #[])))) else (f17_k220 x191 (f17_l153 a1 x120 n (k125k) m153) false))))))))))) else (k125k)))
def f17_k333 (x319 : Int) (c296k : Int → Option Int) (x339 : Bool) : Option Int := (bif x339 then some 5 else (c296k (wr .i64 (x319 + 1))))
def f17_k292 (x287 : Int) (c232k : Int → Option Int) : Option Int := (c232k (wr .i64 (x287 + 1)))
def f17_l296 (a1 : (List Form)) (x287 : Int) (n : Nat) (k292k : Option Int) : Nat → Int → Option Int
  | 0, _ => none
  | m296 + 1, x319 => ((gi a1 x287).bind fun x322 => (bif (decide (x319 < (len x322.fCols))) then ((gi a1 x287).bind fun x329 => ((gi x329.fCols x319).bind fun x331 => (bif (x331.fKind == 3) then (bif (!(sEqF x331.fClass (ByteArray.mk #[65, 78, 89]))) then ((f55 n a1 x331.fClass).bind fun r337 => (f17_k333 x319 (f17_l296 a1 x287 n (k292k) m296) (decide (r337 < 0)))) else (f17_k333 x319 (f17_l296 a1 x287 n (k292k) m296) false)) else (f17_k333 x319 (f17_l296 a1 x287 n (k292k) m296) false)))) else (k292k)))
def f17_k229 : Option Int := some 0
def f17_l232 (a1 : (List Form)) (n : Nat) (k229k : Option Int) : Nat → Int → Option Int
  | 0, _ => none
  | m232 + 1, x287 => (bif (decide (x287 < (len a1))) then (f17_l296 a1 x287 n (f17_k292 x287 (f17_l232 a1 n (k229k) m232)) n 0) else (k229k))
def f17_k8 (n : Nat) (a1 : (List Form)) : Option Int := (f17_l232 a1 n (f17_k229) n 0)
def f17_l11 (a1 : (List Form)) (n : Nat) (k8k : Option Int) : Nat → Int → Option Int
  | 0, _ => none
  | m11 + 1, x120 => (bif (decide (x120 < (len a1))) then ((gi a1 x120).bind fun x128 => ((f54 n x128.fName).bind fun r130 => (bif (!r130) then some 4 else ((gi a1 x120).bind fun x138 => ((f55 n a1 x138.fName).bind fun r140 => (bif (decide (r140 < x120)) then some 6 else ((gi a1 x120).bind fun x146 => (bif (decide ((len x146.fCols) > 30)) then some 3 else (f17_l153 a1 x120 n (f17_k125 x120 (f17_l11 a1 n (k8k) m11)) n 0))))))))) else (k8k))
def f17 (n : Nat) (a1 : (List Form)) : Option Int := (bif (decide ((len a1) > 24)) then some 3 else (f17_l11 a1 n (f17_k8 n a1) n 0))
theorem ic111 : fnIC Try.prog H0 111 = some ([.tmp 4], 29, (.seq (.ops [zO 2 (.box 0 59 [] (.t 0)), zO 4 (.mov (.c (.bool false)))]) (.seq (.seq (.ops [zO 5 (.faddr (.t 2) 0), zO 6 (.ld (.t 5) 1 false)]) (.block 0 (.seq (.ops [zO 8 (.sc (.bin .eql 3) [(.t 6), (.c (.int .i64 1))]), zM 7 8]) (.cond (.t 7)
  (.seq (.ops [zO 9 (.faddr (.t 2) 1), zO 10 (.ld (.t 9) 1 false), zO 11 (.call 86 [(.t 10), (.c (.int .i64 (-1099511627776))), (.c (.int .i64 1099511627776))]), zM 4 11]) .ret)
  (.seq (.ops [zO 13 (.sc (.bin .eql 3) [(.t 6), (.c (.int .i64 2))]), zM 12 13]) (.cond (.t 12)
  (.seq (.ops [zO 14 (.faddr (.t 2) 1), zO 15 (.ld (.t 14) 1 false), zO 16 (.call 86 [(.t 15), (.c (.int .i64 0)), (.c (.int .i64 1))]), zM 4 16]) .ret)
  (.seq (.ops [zO 18 (.sc (.bin .eql 3) [(.t 6), (.c (.int .i64 3))]), zM 17 18]) (.cond (.t 17)
  (.seq (.ops [zO 19 (.faddr (.t 2) 1), zO 20 (.ld (.t 19) 1 false), zO 21 (.sc (.bin .eql 3) [(.t 20), (.c (.int .i64 0))]), zM 4 21]) .ret)
  (.seq (.ops [zO 23 (.sc (.bin .eql 3) [(.t 6), (.c (.int .i64 4))]), zM 22 23]) (.cond (.t 22)
  (.seq (.ops [zO 24 (.faddr (.t 2) 1), zO 25 (.ld (.t 24) 1 false), zM 26 1, zO 27 (.sc (.bin .sub 3) [(.t 26), (.c (.int .i64 1))]), zO 28 (.call 86 [(.t 25), (.c (.int .i64 0)), (.t 27)]), zM 4 28]) .ret)
  .skip)))))))))) (.seq (.ops [zO 4 (.mov (.c (.bool false)))]) .ret)))) := by kernel_rfl
def f111 (n : Nat) (a1 : Val) (a2 : Int) : Option Bool := (bif (a1.fKind == 1) then ((f86 n a1.fN (-1099511627776) 1099511627776).bind fun r10 => some r10) else (bif (a1.fKind == 2) then ((f86 n a1.fN 0 1).bind fun r15 => some r15) else (bif (a1.fKind == 3) then some (a1.fN == 0) else (bif (a1.fKind == 4) then ((f86 n a1.fN 0 (wr .i64 (a2 - 1))).bind fun r23 => some r23) else some false))))
def f111_r (r : Bool) : AV := (vB r)
theorem p_f111 {n : Nat} {a1 : Val} {a2 : Int} {r : Bool} (h : f111 n a1 a2 = some r) : PureSpec Try.prog 111 [(.agg [(vI a1.fKind), (vI a1.fN)]), (vI a2)] (f111_r r) := by
 rw [f111.eq_1] at h
 refine pure_of hmix ic111 ?_
 refine go_to (mkd (.val undef) 29 0 [(0, (.agg [(vI a1.fKind), (vI a1.fN)])), (1, (vI a2))]) ?_
 refine s_so fun N3 k3 w3 => ?_
 refine o_h2 [(2, (.ptr 0 0)), (4, (vB false))] [(some (.box 59 [(vI a1.fKind), (vI a1.fN)]))] ?_
 refine o_end (k3 _ ?_)
 refine s_seq fun N4 k4 w4 => ?_
 refine s_so fun N5 k5 w5 => ?_
 refine o_r2 [(5, (.ptr 0 0)), (6, (vI a1.fKind))] ?_
 refine o_end (k5 _ ?_)
 refine c_block fun E6 hE6 hO6 => ?_
 refine s_so fun N7 k7 w7 => ?_
 refine o_r2 [(7, (vB (a1.fKind == 1))), (8, (vB (a1.fKind == 1)))] ?_
 refine o_end (k7 _ ?_)
 refine i_c [7, 8] h (fun h => ?_) (fun h => ?_)
 · refine s_so fun N9 k9 w9 => ?_
   refine o_r2 [(9, (.ptr 0 1)), (10, (vI a1.fN))] ?_
   refine bnd h fun r10 g11 h => ?_
   refine o_o (one_call (p_f86 g11)) ?_
   refine o_r1 [(4, (vB r10))] ?_
   refine o_end (k9 _ ?_)
   exact c_ret (rets [] [(vB r10)] [(vB r10)] h)
 · refine s_so fun N12 k12 w12 => ?_
   refine o_r2 [(12, (vB (a1.fKind == 2))), (13, (vB (a1.fKind == 2)))] ?_
   refine o_end (k12 _ ?_)
   refine i_c [12, 13] h (fun h => ?_) (fun h => ?_)
   · refine s_so fun N14 k14 w14 => ?_
     refine o_r2 [(14, (.ptr 0 1)), (15, (vI a1.fN))] ?_
     refine bnd h fun r15 g16 h => ?_
     refine o_o (one_call (p_f86 g16)) ?_
     refine o_r1 [(4, (vB r15))] ?_
     refine o_end (k14 _ ?_)
     exact c_ret (rets [] [(vB r15)] [(vB r15)] h)
   · refine s_so fun N17 k17 w17 => ?_
     refine o_r2 [(17, (vB (a1.fKind == 3))), (18, (vB (a1.fKind == 3)))] ?_
     refine o_end (k17 _ ?_)
     refine i_c [17, 18] h (fun h => ?_) (fun h => ?_)
     · refine s_so fun N19 k19 w19 => ?_
       refine o_r4 [(4, (vB (a1.fN == 0))), (19, (.ptr 0 1)), (20, (vI a1.fN)), (21, (vB (a1.fN == 0)))] ?_
       refine o_end (k19 _ ?_)
       exact c_ret (rets [] [(vB (a1.fN == 0))] [(vB (a1.fN == 0))] h)
     · refine s_so fun N20 k20 w20 => ?_
       refine o_r2 [(22, (vB (a1.fKind == 4))), (23, (vB (a1.fKind == 4)))] ?_
       refine o_end (k20 _ ?_)
       refine i_c [22, 23] h (fun h => ?_) (fun h => ?_)
       · refine s_so fun N22 k22 w22 => ?_
         refine o_r4 [(24, (.ptr 0 1)), (25, (vI a1.fN)), (26, (vI a2)), (27, (vI (wr .i64 (a2 - 1))))] ?_
         refine bnd h fun r23 g24 h => ?_
         refine o_o (one_call (p_f86 g24)) ?_
         refine o_r1 [(4, (vB r23))] ?_
         refine s_tm (mkd (.val undef) 29 0 [(0, (.agg [(vI a1.fKind), (vI a1.fN)])), (1, (vI a2)), (2, (.ptr 0 0)), (4, (vB r23)), (5, (.ptr 0 0)), (6, (vI a1.fKind)), (7, (vB false)), (8, (vB false)), (12, (vB false)), (13, (vB false)), (17, (vB false)), (18, (vB false)), (22, (vB true)), (23, (vB true)), (24, (.ptr 0 1)), (25, (vI a1.fN)), (26, (vI a2)), (27, (vI (wr .i64 (a2 - 1)))), (28, (vB r23))]) ?_
         refine o_end (w22 _ ⟨(mkd .any 29 0 [(4, (vB r23))]), []⟩ (wkm [4] wh_nil) ?_)
         exact c_ret (rets [] [(vB r23)] [(vB r23)] h)
       · refine c_skip (k4 _ ?_)
         refine s_so fun N25 k25 w25 => ?_
         refine o_r1 [] ?_
         refine o_end (k25 _ ?_)
         exact c_ret (rets [] [(vB false)] [(vB false)] h)
theorem ic110 : fnIC Try.prog H0 110 = some ([.tmp 3], 10, (.seq (.ops [zO 2 (.box 0 59 [] (.t 0)), zO 3 (.mov (.c (.bool false)))]) (.seq (.ops [zO 4 (.ld (.t 2) 2 true), zO 5 (.faddr (.t 1) 0), zO 6 (.ld (.t 5) 1 false), zO 7 (.len false (.t 6)), zO 8 (.call 111 [(.t 4), (.t 7)]), zO 9 (.sc (.un .not) [(.t 8)]), zM 3 9]) .ret))) := by kernel_rfl
def f110 (n : Nat) (a1 : Val) (a2 : (List Node)) (a3 : (List Val)) : Option Bool := ((f111 n a1 (len a2)).bind fun r7 => some (!r7))
def f110_r (r : Bool) : AV := (vB r)
theorem p_f110 {n : Nat} {a1 : Val} {a2 : (List Node)} {a3 : (List Val)} {r : Bool} (h : f110 n a1 a2 a3 = some r) : PureSpec Try.prog 110 [(.agg [(vI a1.fKind), (vI a1.fN)]), (.iptr [(vL Node.c a2), (vL Val.c a3)])] (f110_r r) := by
 rw [f110.eq_1] at h
 refine pure_of hmix ic110 ?_
 refine go_to (mkd (.val undef) 10 0 [(0, (.agg [(vI a1.fKind), (vI a1.fN)])), (1, (.iptr [(vL Node.c a2), (vL Val.c a3)]))]) ?_
 refine s_so fun N4 k4 w4 => ?_
 refine o_h2 [(2, (.ptr 0 0)), (3, (vB false))] [(some (.box 59 [(vI a1.fKind), (vI a1.fN)]))] ?_
 refine o_end (k4 _ ?_)
 refine s_so fun N5 k5 w5 => ?_
 refine o_r3 [(4, (.agg [(vI a1.fKind), (vI a1.fN)])), (5, (.iptr [(vL Node.c a2), (vL Val.c a3)])), (6, (vL Node.c a2))] ?_
 refine o_o (one_len (f := Node.c) (l := a2)) ?_
 refine bnd h fun r7 g8 h => ?_
 refine o_o (one_call (p_f111 g8)) ?_
 refine o_r2 [(3, (vB (!r7))), (9, (vB (!r7)))] ?_
 refine o_end (k5 _ ?_)
 exact c_ret (rets [] [(vB (!r7))] [(vB (!r7))] h)
theorem ic140 : fnIC Try.prog H0 140 = some ([.tmp 4], 19, (.seq (.ops [zO 4 (.mov (.c (.int .i64 0)))]) (.seq (.seq (.ops [zM 6 0, zO 7 (.len false (.t 6)), zO 8 (.mov (.c (.int .i64 0)))]) (.block 0 (.loop (.seq (.ops [zO 9 (.sc (.bin .lss 3) [(.t 8), (.t 7)])]) (.seq (.cond (.t 9)
  .skip
  (.exit 0)) (.seq (.block 1 (.seq (.ops [zM 10 8, zM 5 10]) (.seq (.ops [zM 11 1, zM 12 0, zM 13 5, zO 14 (.iaddr 2 (.t 12) (.t 13)), zO 15 (.ld (.t 14) 2 true), zO 16 (.callv (.t 11) [(.t 15)])]) (.cond (.t 16)
  (.seq (.ops [zM 17 5, zM 4 17]) .ret)
  .skip)))) (.ops [zO 18 (.sc (.bin .add 3) [(.t 8), (.c (.int .i64 1))]), zM 8 18]))))))) (.seq (.ops [zO 4 (.mov (.c (.int .i64 (-1))))]) .ret)))) := by kernel_rfl
def f140_k5 : Option Int := some (-1)
def f140_l9 (a1 : (List Val)) (n : Nat) (a2 : (List Node)) (a3 : (List Val)) (k5k : Option Int) : Nat → Int → Option Int
  | 0, _ => none
  | m9 + 1, x23 => (bif (decide (x23 < (len a1))) then ((gi a1 x23).bind fun x31 => ((f110 n x31 a2 a3).bind fun r33 => (bif r33 then some x23 else (f140_l9 a1 n a2 a3 (k5k) m9 (wr .i64 (x23 + 1)))))) else (k5k))
def f140 (n : Nat) (a1 : (List Val)) (a2 : (List Node)) (a3 : (List Val)) : Option Int := (f140_l9 a1 n a2 a3 (f140_k5) n 0)
def f140_r (r : Int) : AV := (vI r)
theorem p_f140 {n : Nat} {a1 : (List Val)} {a2 : (List Node)} {a3 : (List Val)} {r : Int} (h : f140 n a1 a2 a3 = some r) : PureSpec Try.prog 140 [(vL Val.c a1), (.fn 110 [(.iptr [(vL Node.c a2), (vL Val.c a3)])])] (f140_r r) := by
 rw [f140.eq_1] at h
 refine pure_of hmix ic140 ?_
 refine go_to (mkd (.val undef) 19 0 [(0, (vL Val.c a1)), (1, (.fn 110 [(.iptr [(vL Node.c a2), (vL Val.c a3)])]))]) ?_
 refine s_so fun N4 k4 w4 => ?_
 refine o_r1 [(4, (vI 0))] ?_
 refine o_end (k4 _ ?_)
 refine J0 (r := r) ⟨(mkd .any 19 0 []), []⟩ (f140_k5) ?_ ?_
 · intro h
   rw [f140_k5.eq_1] at h
   refine s_so fun N37 k37 w37 => ?_
   refine o_r1 [(4, (vI (-1)))] ?_
   refine o_end (k37 _ ?_)
   exact c_ret (rets [] [(vI (-1))] [(vI (-1))] h)
 · intro N5 w5
   refine s_so fun N6 k6 w6 => ?_
   refine o_r1 [(6, (vL Val.c a1))] ?_
   refine o_o (one_len (f := Val.c) (l := a1)) ?_
   refine o_r1 [(8, (vI 0))] ?_
   refine o_end (k6 _ ?_)
   refine c_block fun E8 hE8 hO8 => ?_
   refine W1 (fun (x23 : Int) => ⟨(mkd .any 19 0 [(0, (vL Val.c a1)), (1, (.fn 110 [(.iptr [(vL Node.c a2), (vL Val.c a3)])])), (7, (vI (len a1))), (8, (vI x23))]), []⟩) (f140_l9 a1 n a2 a3 (f140_k5)) h (wkm [0, 1, 7, 8] wh_nil) (by intros; rw [f140_l9.eq_1]) ?_
   intro m9 x23 h N9 w9
   rw [f140_l9.eq_2] at h
   refine s_so fun N24 k24 w24 => ?_
   refine o_r1 [(9, (vB (decide (x23 < (len a1)))))] ?_
   refine o_end (k24 _ ?_)
   refine s_seq fun N25 k25 w25 => ?_
   refine i_c [9] h (fun h => ?_) (fun h => ?_)
   · refine c_skip (k25 _ ?_)
     refine s_seq fun N27 k27 w27 => ?_
     refine c_block fun E28 hE28 hO28 => ?_
     refine s_so fun N29 k29 w29 => ?_
     refine o_r2 [(5, (vI x23)), (10, (vI x23))] ?_
     refine o_end (k29 _ ?_)
     refine s_so fun N30 k30 w30 => ?_
     refine o_r3 [(11, (.fn 110 [(.iptr [(vL Node.c a2), (vL Val.c a3)])])), (12, (vL Val.c a1)), (13, (vI x23))] ?_
     refine bnd h fun x31 g32 h => ?_
     refine o_o (one_ia (f := Val.c) (ki := .i64) g32) ?_
     refine o_r1 [(15, (.agg [(vI x31.fKind), (vI x31.fN)]))] ?_
     refine bnd h fun r33 g34 h => ?_
     refine o_o (one_callv (caps := [(.iptr [(vL Node.c a2), (vL Val.c a3)])]) (p_f110 g34)) ?_
     refine o_end (k30 _ ?_)
     refine i_c [16] h (fun h => ?_) (fun h => ?_)
     · refine s_so fun N36 k36 w36 => ?_
       refine o_r2 [(4, (vI x23)), (17, (vI x23))] ?_
       refine o_end (k36 _ ?_)
       exact c_ret (rets [] [(vI x23)] [(vI x23)] h)
     · refine c_skip (k27 _ ?_)
       refine c_ops ?_
       refine o_r2 [(8, (vI (wr .i64 (x23 + 1)))), (18, (vI (wr .i64 (x23 + 1))))] ?_
       exact o_end (w9 _ _ (wkm [0, 1, 7, 8] wh_nil) h)
   · refine c_exit (hE8 _ ?_)
     exact w5 _ (wkm [] wh_nil) h
theorem ic112 : fnIC Try.prog H0 112 = some ([.tmp 4], 9, (.seq (.ops [zO 4 (.mov (.c (.bool false)))]) (.seq (.ops [zM 5 0, zM 6 1, zO 7 (.call 140 [(.t 5), (.t 6)]), zO 8 (.sc (.bin .geq 3) [(.t 7), (.c (.int .i64 0))]), zM 4 8]) .ret))) := by kernel_rfl
def f112 (n : Nat) (a1 : (List Val)) (a2 : (List Node)) (a3 : (List Val)) : Option Bool := ((f140 n a1 a2 a3).bind fun r6 => some (decide (r6 ≥ 0)))
def f112_r (r : Bool) : AV := (vB r)
theorem p_f112 {n : Nat} {a1 : (List Val)} {a2 : (List Node)} {a3 : (List Val)} {r : Bool} (h : f112 n a1 a2 a3 = some r) : PureSpec Try.prog 112 [(vL Val.c a1), (.fn 110 [(.iptr [(vL Node.c a2), (vL Val.c a3)])])] (f112_r r) := by
 rw [f112.eq_1] at h
 refine pure_of hmix ic112 ?_
 refine go_to (mkd (.val undef) 9 0 [(0, (vL Val.c a1)), (1, (.fn 110 [(.iptr [(vL Node.c a2), (vL Val.c a3)])]))]) ?_
 refine s_so fun N4 k4 w4 => ?_
 refine o_r1 [(4, (vB false))] ?_
 refine o_end (k4 _ ?_)
 refine s_so fun N5 k5 w5 => ?_
 refine o_r2 [(5, (vL Val.c a1)), (6, (.fn 110 [(.iptr [(vL Node.c a2), (vL Val.c a3)])]))] ?_
 refine bnd h fun r6 g7 h => ?_
 refine o_o (one_call (p_f140 g7)) ?_
 refine o_r2 [(4, (vB (decide (r6 ≥ 0)))), (8, (vB (decide (r6 ≥ 0))))] ?_
 refine o_end (k5 _ ?_)
 exact c_ret (rets [] [(vB (decide (r6 ≥ 0)))] [(vB (decide (r6 ≥ 0)))] h)
theorem ic114 : fnIC Try.prog H0 114 = some ([.tmp 2], 11, (.seq (.ops [zO 1 (.box 0 59 [] (.t 0)), zO 2 (.mov (.c (.bool false)))]) (.seq (.ops [zO 3 (.faddr (.t 1) 0), zO 4 (.ld (.t 3) 1 false), zO 5 (.sc (.bin .eql 3) [(.t 4), (.c (.int .i64 3))]), zM 6 5, zG 7 6 false (.faddr (.t 1) 0), zG 8 6 false (.ld (.t 7) 1 false), zG 9 6 false (.sc (.bin .eql 3) [(.t 8), (.c (.int .i64 4))]), zO 10 (.pick (.t 6) (.c (.bool true)) (.t 9)), zM 2 10]) .ret))) := by kernel_rfl
def f114_k3 (x5 : Bool) : Option Bool := some x5
def f114 (n : Nat) (a1 : Val) : Option Bool := (bif (a1.fKind == 3) then (f114_k3 true) else (f114_k3 (a1.fKind == 4)))
def f114_r (r : Bool) : AV := (vB r)
theorem p_f114 {n : Nat} {a1 : Val} {r : Bool} (h : f114 n a1 = some r) : PureSpec Try.prog 114 [(.agg [(vI a1.fKind), (vI a1.fN)])] (f114_r r) := by
 rw [f114.eq_1] at h
 refine pure_of hmix ic114 ?_
 refine go_to (mkd (.val undef) 11 0 [(0, (.agg [(vI a1.fKind), (vI a1.fN)]))]) ?_
 refine s_so fun N2 k2 w2 => ?_
 refine o_h2 [(1, (.ptr 0 0)), (2, (vB false))] [(some (.box 59 [(vI a1.fKind), (vI a1.fN)]))] ?_
 refine o_end (k2 _ ?_)
 refine J1 (r := r) (fun (x5 : Bool) => ⟨(mkd .any 11 0 [(2, (vB x5))]), []⟩) (f114_k3) ?_ ?_
 · intro x5 h
   rw [f114_k3.eq_1] at h
   exact c_ret (rets [] [(vB x5)] [(vB x5)] h)
 · intro N3 w3
   refine c_ops ?_
   refine o_r4 [(3, (.ptr 0 0)), (4, (vI a1.fKind)), (5, (vB (a1.fKind == 3))), (6, (vB (a1.fKind == 3)))] ?_
   refine i_o [5, 6] h (fun h => ?_) (fun h => ?_)
   · refine o_r5 [(2, (vB true)), (7, (.val undef)), (8, (.val undef)), (9, (.val undef)), (10, (vB true))] ?_
     exact o_end (w3 _ _ (wkm [2] wh_nil) h)
   · refine o_r5 [(2, (vB (a1.fKind == 4))), (7, (.ptr 0 0)), (8, (vI a1.fKind)), (9, (vB (a1.fKind == 4))), (10, (vB (a1.fKind == 4)))] ?_
     exact o_end (w3 _ _ (wkm [2] wh_nil) h)
theorem ic113 : fnIC Try.prog H0 113 = some ([.tmp 3], 12, (.seq (.ops [zO 2 (.box 0 59 [] (.t 0)), zO 3 (.mov (.c (.bool false)))]) (.seq (.ops [zO 4 (.ld (.t 1) 1 false), zO 5 (.ld (.t 2) 2 true), zO 6 (.callv (.t 4) [(.t 5)]), zM 7 6, zG 8 7 false (.ld (.t 2) 2 true), zG 9 7 false (.call 114 [(.t 8)]), zG 10 7 false (.sc (.un .not) [(.t 9)]), zO 11 (.pick (.t 7) (.c (.bool true)) (.t 10)), zM 3 11]) .ret))) := by kernel_rfl
def f113_k5 (x11 : Bool) : Option Bool := some x11
def f113 (n : Nat) (a1 : Val) (a2 : (List Node)) (a3 : (List Val)) : Option Bool := ((f110 n a1 a2 a3).bind fun r6 => (bif r6 then (f113_k5 true) else ((f114 n a1).bind fun r9 => (f113_k5 (!r9)))))
def f113_r (r : Bool) : AV := (vB r)
theorem p_f113 {n : Nat} {a1 : Val} {a2 : (List Node)} {a3 : (List Val)} {r : Bool} (h : f113 n a1 a2 a3 = some r) : PureSpec Try.prog 113 [(.agg [(vI a1.fKind), (vI a1.fN)]), (.iptr [(.fn 110 [(.iptr [(vL Node.c a2), (vL Val.c a3)])])])] (f113_r r) := by
 rw [f113.eq_1] at h
 refine pure_of hmix ic113 ?_
 refine go_to (mkd (.val undef) 12 0 [(0, (.agg [(vI a1.fKind), (vI a1.fN)])), (1, (.iptr [(.fn 110 [(.iptr [(vL Node.c a2), (vL Val.c a3)])])]))]) ?_
 refine s_so fun N4 k4 w4 => ?_
 refine o_h2 [(2, (.ptr 0 0)), (3, (vB false))] [(some (.box 59 [(vI a1.fKind), (vI a1.fN)]))] ?_
 refine o_end (k4 _ ?_)
 refine J1 (r := r) (fun (x11 : Bool) => ⟨(mkd .any 12 0 [(3, (vB x11))]), []⟩) (f113_k5) ?_ ?_
 · intro x11 h
   rw [f113_k5.eq_1] at h
   exact c_ret (rets [] [(vB x11)] [(vB x11)] h)
 · intro N5 w5
   refine c_ops ?_
   refine o_r2 [(4, (.fn 110 [(.iptr [(vL Node.c a2), (vL Val.c a3)])])), (5, (.agg [(vI a1.fKind), (vI a1.fN)]))] ?_
   refine bnd h fun r6 g7 h => ?_
   refine o_o (one_callv (caps := [(.iptr [(vL Node.c a2), (vL Val.c a3)])]) (p_f110 g7)) ?_
   refine o_r1 [(7, (vB r6))] ?_
   refine i_o [6, 7] h (fun h => ?_) (fun h => ?_)
   · refine o_r5 [(3, (vB true)), (8, (.val undef)), (9, (.val undef)), (10, (.val undef)), (11, (vB true))] ?_
     exact o_end (w5 _ _ (wkm [3] wh_nil) h)
   · refine o_r1 [(8, (.agg [(vI a1.fKind), (vI a1.fN)]))] ?_
     refine bnd h fun r9 g10 h => ?_
     refine o_g ?_
     refine o_o (one_call (p_f114 g10)) ?_
     refine o_r3 [(3, (vB (!r9))), (10, (vB (!r9))), (11, (vB (!r9)))] ?_
     exact o_end (w5 _ _ (wkm [3] wh_nil) h)
def f140_b_k5 : Option Int := some (-1)
def f140_b_l9 (a1 : (List Val)) (n : Nat) (a2 : (List Node)) (a3 : (List Val)) (k5k : Option Int) : Nat → Int → Option Int
  | 0, _ => none
  | m9 + 1, x23 => (bif (decide (x23 < (len a1))) then ((gi a1 x23).bind fun x31 => ((f113 n x31 a2 a3).bind fun r33 => (bif r33 then some x23 else (f140_b_l9 a1 n a2 a3 (k5k) m9 (wr .i64 (x23 + 1)))))) else (k5k))
def f140_b (n : Nat) (a1 : (List Val)) (a2 : (List Node)) (a3 : (List Val)) : Option Int := (f140_b_l9 a1 n a2 a3 (f140_b_k5) n 0)
def f140_b_r (r : Int) : AV := (vI r)
theorem p_f140_b {n : Nat} {a1 : (List Val)} {a2 : (List Node)} {a3 : (List Val)} {r : Int} (h : f140_b n a1 a2 a3 = some r) : PureSpec Try.prog 140 [(vL Val.c a1), (.fn 113 [(.iptr [(.fn 110 [(.iptr [(vL Node.c a2), (vL Val.c a3)])])])])] (f140_b_r r) := by
 rw [f140_b.eq_1] at h
 refine pure_of hmix ic140 ?_
 refine go_to (mkd (.val undef) 19 0 [(0, (vL Val.c a1)), (1, (.fn 113 [(.iptr [(.fn 110 [(.iptr [(vL Node.c a2), (vL Val.c a3)])])])]))]) ?_
 refine s_so fun N4 k4 w4 => ?_
 refine o_r1 [(4, (vI 0))] ?_
 refine o_end (k4 _ ?_)
 refine J0 (r := r) ⟨(mkd .any 19 0 []), []⟩ (f140_b_k5) ?_ ?_
 · intro h
   rw [f140_b_k5.eq_1] at h
   refine s_so fun N37 k37 w37 => ?_
   refine o_r1 [(4, (vI (-1)))] ?_
   refine o_end (k37 _ ?_)
   exact c_ret (rets [] [(vI (-1))] [(vI (-1))] h)
 · intro N5 w5
   refine s_so fun N6 k6 w6 => ?_
   refine o_r1 [(6, (vL Val.c a1))] ?_
   refine o_o (one_len (f := Val.c) (l := a1)) ?_
   refine o_r1 [(8, (vI 0))] ?_
   refine o_end (k6 _ ?_)
   refine c_block fun E8 hE8 hO8 => ?_
   refine W1 (fun (x23 : Int) => ⟨(mkd .any 19 0 [(0, (vL Val.c a1)), (1, (.fn 113 [(.iptr [(.fn 110 [(.iptr [(vL Node.c a2), (vL Val.c a3)])])])])), (7, (vI (len a1))), (8, (vI x23))]), []⟩) (f140_b_l9 a1 n a2 a3 (f140_b_k5)) h (wkm [0, 1, 7, 8] wh_nil) (by intros; rw [f140_b_l9.eq_1]) ?_
   intro m9 x23 h N9 w9
   rw [f140_b_l9.eq_2] at h
   refine s_so fun N24 k24 w24 => ?_
   refine o_r1 [(9, (vB (decide (x23 < (len a1)))))] ?_
   refine o_end (k24 _ ?_)
   refine s_seq fun N25 k25 w25 => ?_
   refine i_c [9] h (fun h => ?_) (fun h => ?_)
   · refine c_skip (k25 _ ?_)
     refine s_seq fun N27 k27 w27 => ?_
     refine c_block fun E28 hE28 hO28 => ?_
     refine s_so fun N29 k29 w29 => ?_
     refine o_r2 [(5, (vI x23)), (10, (vI x23))] ?_
     refine o_end (k29 _ ?_)
     refine s_so fun N30 k30 w30 => ?_
     refine o_r3 [(11, (.fn 113 [(.iptr [(.fn 110 [(.iptr [(vL Node.c a2), (vL Val.c a3)])])])])), (12, (vL Val.c a1)), (13, (vI x23))] ?_
     refine bnd h fun x31 g32 h => ?_
     refine o_o (one_ia (f := Val.c) (ki := .i64) g32) ?_
     refine o_r1 [(15, (.agg [(vI x31.fKind), (vI x31.fN)]))] ?_
     refine bnd h fun r33 g34 h => ?_
     refine o_o (one_callv (caps := [(.iptr [(.fn 110 [(.iptr [(vL Node.c a2), (vL Val.c a3)])])])]) (p_f113 g34)) ?_
     refine o_end (k30 _ ?_)
     refine i_c [16] h (fun h => ?_) (fun h => ?_)
     · refine s_so fun N36 k36 w36 => ?_
       refine o_r2 [(4, (vI x23)), (17, (vI x23))] ?_
       refine o_end (k36 _ ?_)
       exact c_ret (rets [] [(vI x23)] [(vI x23)] h)
     · refine c_skip (k27 _ ?_)
       refine c_ops ?_
       refine o_r2 [(8, (vI (wr .i64 (x23 + 1)))), (18, (vI (wr .i64 (x23 + 1))))] ?_
       exact o_end (w9 _ _ (wkm [0, 1, 7, 8] wh_nil) h)
   · refine c_exit (hE8 _ ?_)
     exact w5 _ (wkm [] wh_nil) h
def f112_b (n : Nat) (a1 : (List Val)) (a2 : (List Node)) (a3 : (List Val)) : Option Bool := ((f140_b n a1 a2 a3).bind fun r6 => some (decide (r6 ≥ 0)))
def f112_b_r (r : Bool) : AV := (vB r)
theorem p_f112_b {n : Nat} {a1 : (List Val)} {a2 : (List Node)} {a3 : (List Val)} {r : Bool} (h : f112_b n a1 a2 a3 = some r) : PureSpec Try.prog 112 [(vL Val.c a1), (.fn 113 [(.iptr [(.fn 110 [(.iptr [(vL Node.c a2), (vL Val.c a3)])])])])] (f112_b_r r) := by
 rw [f112_b.eq_1] at h
 refine pure_of hmix ic112 ?_
 refine go_to (mkd (.val undef) 9 0 [(0, (vL Val.c a1)), (1, (.fn 113 [(.iptr [(.fn 110 [(.iptr [(vL Node.c a2), (vL Val.c a3)])])])]))]) ?_
 refine s_so fun N4 k4 w4 => ?_
 refine o_r1 [(4, (vB false))] ?_
 refine o_end (k4 _ ?_)
 refine s_so fun N5 k5 w5 => ?_
 refine o_r2 [(5, (vL Val.c a1)), (6, (.fn 113 [(.iptr [(.fn 110 [(.iptr [(vL Node.c a2), (vL Val.c a3)])])])]))] ?_
 refine bnd h fun r6 g7 h => ?_
 refine o_o (one_call (p_f140_b g7)) ?_
 refine o_r2 [(4, (vB (decide (r6 ≥ 0)))), (8, (vB (decide (r6 ≥ 0))))] ?_
 refine o_end (k5 _ ?_)
 exact c_ret (rets [] [(vB (decide (r6 ≥ 0)))] [(vB (decide (r6 ≥ 0)))] h)
theorem ic74 : fnIC Try.prog H0 74 = some ([.tmp 2], 49, (.seq (.ops [zO 1 (.box 0 26 [(0, 57, 2, 0), (1, 59, 2, 0)] (.t 0)), zO 2 (.mov (.c (.int .i64 0)))]) (.seq (.seq (.ops [zO 8 (.faddr (.t 1) 0), zO 9 (.ld (.t 8) 1 false), zO 10 (.len false (.t 9)), zO 11 (.sc (.bin .gtr 3) [(.t 10), (.c (.int .i64 400))]), zM 12 11, zG 13 12 false (.faddr (.t 1) 1), zG 14 12 false (.ld (.t 13) 1 false), zG 15 12 false (.len false (.t 14)), zG 16 12 false (.sc (.bin .gtr 3) [(.t 15), (.c (.int .i64 60))]), zO 17 (.pick (.t 12) (.c (.bool true)) (.t 16))]) (.cond (.t 17)
  (.seq (.ops [zO 2 (.mov (.c (.int .i64 3)))]) .ret)
  .skip)) (.seq (.seq (.ops [zO 18 (.faddr (.t 1) 0), zO 19 (.ld (.t 18) 1 false), zO 20 (.len false (.t 19)), zO 21 (.mov (.c (.int .i64 0)))]) (.block 0 (.loop (.seq (.ops [zO 22 (.sc (.bin .lss 3) [(.t 21), (.t 20)])]) (.seq (.cond (.t 22)
  .skip
  (.exit 0)) (.seq (.block 1 (.seq (.ops [zO 23 (.iaddr 2 (.t 19) (.t 21)), zO 24 (.ld (.t 23) 2 true), zO 4 (.alloc 0 57 [(1, 59, 2, 0)] [(.string ⟨#[]⟩), (.slice none 0 0)]), zU (.st true 2 [(1, 59, 2, 0)] (.t 4) (.t 24))]) (.seq (.ops [zO 25 (.faddr (.t 4) 1), zO 26 (.ld (.t 25) 1 false), zO 27 (.len false (.t 26)), zO 28 (.sc (.bin .gtr 3) [(.t 27), (.c (.int .i64 30))])]) (.cond (.t 28)
  (.seq (.ops [zO 2 (.mov (.c (.int .i64 3)))]) .ret)
  .skip)))) (.ops [zO 29 (.sc (.bin .add 3) [(.t 21), (.c (.int .i64 1))]), zM 21 29]))))))) (.seq (.ops [zO 30 (.mkf 110 [(.t 1)]), zO 5 (.alloc 0 165 [] [.nilFunc]), zU (.st true 1 [] (.t 5) (.t 30))]) (.seq (.seq (.ops [zO 31 (.faddr (.t 1) 0), zO 32 (.ld (.t 31) 1 false), zO 33 (.len false (.t 32)), zO 34 (.mov (.c (.int .i64 0)))]) (.block 2 (.loop (.seq (.ops [zO 35 (.sc (.bin .lss 3) [(.t 34), (.t 33)])]) (.seq (.cond (.t 35)
  .skip
  (.exit 2)) (.seq (.block 3 (.seq (.ops [zO 36 (.iaddr 2 (.t 32) (.t 34)), zO 37 (.ld (.t 36) 2 true), zO 7 (.alloc 0 57 [(1, 59, 2, 0)] [(.string ⟨#[]⟩), (.slice none 0 0)]), zU (.st true 2 [(1, 59, 2, 0)] (.t 7) (.t 37))]) (.seq (.ops [zO 38 (.faddr (.t 7) 1), zO 39 (.ld (.t 38) 1 false), zO 40 (.ld (.t 5) 1 false), zO 41 (.call 112 [(.t 39), (.t 40)])]) (.cond (.t 41)
  (.seq (.ops [zO 2 (.mov (.c (.int .i64 2)))]) .ret)
  .skip)))) (.ops [zO 42 (.sc (.bin .add 3) [(.t 34), (.c (.int .i64 1))]), zM 34 42]))))))) (.seq (.ops [zO 43 (.faddr (.t 1) 1), zO 44 (.ld (.t 43) 1 false), zO 45 (.mkf 113 [(.t 5)]), zO 46 (.call 112 [(.t 44), (.t 45)]), zO 47 (.sc (.un .not) [(.t 46)]), zO 48 (.call 50 [(.t 47), (.c (.int .i64 2))]), zM 2 48]) .ret))))))) := by kernel_rfl
def f74_k42 (n : Nat) (a1 : Graph) : Option Int := ((f112_b n a1.fRoots a1.fNodes a1.fRoots).bind fun r75 => ((f50 n (!r75) 2).bind fun r77 => some r77))
def f74_l46 (a1 : Graph) (n : Nat) (k42k : Option Int) : Nat → Int → Option Int
  | 0, _ => none
  | m46 + 1, x60 => (bif (decide (x60 < (len a1.fNodes))) then ((gi a1.fNodes x60).bind fun x67 => ((f112 n x67.fVals a1.fNodes a1.fRoots).bind fun r70 => (bif r70 then some 2 else (f74_l46 a1 n (k42k) m46 (wr .i64 (x60 + 1)))))) else (k42k))
def f74_k11 (n : Nat) (a1 : Graph) : Option Int := (f74_l46 a1 n (f74_k42 n a1) n 0)
def f74_l15 (a1 : Graph) (k11k : Option Int) : Nat → Int → Option Int
  | 0, _ => none
  | m15 + 1, x28 => (bif (decide (x28 < (len a1.fNodes))) then ((gi a1.fNodes x28).bind fun x35 => (bif (decide ((len x35.fVals) > 30)) then some 3 else (f74_l15 a1 (k11k) m15 (wr .i64 (x28 + 1))))) else (k11k))
def f74_k4 (n : Nat) (a1 : Graph) (x8 : Bool) : Option Int := (bif x8 then some 3 else (f74_l15 a1 (f74_k11 n a1) n 0))
def f74 (n : Nat) (a1 : Graph) : Option Int := (bif (decide ((len a1.fNodes) > 400)) then (f74_k4 n a1 true) else (f74_k4 n a1 (decide ((len a1.fRoots) > 60))))
def f74_r (r : Int) : AV := (vI r)
theorem p_f74 {n : Nat} {a1 : Graph} {r : Int} (h : f74 n a1 = some r) : PureSpec Try.prog 74 [(.agg [(vL Node.c a1.fNodes), (vL Val.c a1.fRoots)])] (f74_r r) := by
 rw [f74.eq_1] at h
 refine pure_of hmix ic74 ?_
 refine go_to (mkd (.val undef) 49 0 [(0, (.agg [(vL Node.c a1.fNodes), (vL Val.c a1.fRoots)]))]) ?_
 refine s_so fun N2 k2 w2 => ?_
 refine o_h2 [(1, (.ptr 0 0)), (2, (vI 0))] [(some (.box 26 [(vL Node.c a1.fNodes), (vL Val.c a1.fRoots)]))] ?_
 refine o_end (k2 _ ?_)
 refine s_seq fun N3 k3 w3 => ?_
 refine J1 (r := r) (fun (x8 : Bool) => ⟨(mkd .any 49 0 [(1, (.ptr 0 0)), (17, (vB x8))]), [(some (.box 26 [(vL Node.c a1.fNodes), (vL Val.c a1.fRoots)]))]⟩) (f74_k4 n a1) ?_ ?_
 · intro x8 h
   rw [f74_k4.eq_1] at h
   refine i_c [17] h (fun h => ?_) (fun h => ?_)
   · refine s_so fun N10 k10 w10 => ?_
     refine o_r1 [(2, (vI 3))] ?_
     refine o_end (k10 _ ?_)
     exact c_ret (rets [] [(vI 3)] [(vI 3)] h)
   · refine c_skip (k3 _ ?_)
     refine J0 (r := r) ⟨(mkd .any 49 0 [(1, (.ptr 0 0))]), [(some (.box 26 [(vL Node.c a1.fNodes), (vL Val.c a1.fRoots)]))]⟩ (f74_k11 n a1) ?_ ?_
     · intro h
       rw [f74_k11.eq_1] at h
       refine s_so fun N41 k41 w41 => ?_
       refine o_h3 [(5, (.ptr 1 0)), (30, (.fn 110 [(.ptr 0 0)]))] [(some (.box 26 [(vL Node.c a1.fNodes), (vL Val.c a1.fRoots)])), (some (.box 165 [(.fn 110 [(.ptr 0 0)])]))] ?_
       refine o_end (k41 _ ?_)
       refine J0 (r := r) ⟨(mkd .any 49 0 [(1, (.ptr 0 0)), (5, (.ptr 1 0))]), [(some (.box 26 [(vL Node.c a1.fNodes), (vL Val.c a1.fRoots)])), (some (.box 165 [(.fn 110 [(.ptr 0 0)])]))]⟩ (f74_k42 n a1) ?_ ?_
       · intro h
         rw [f74_k42.eq_1] at h
         refine s_so fun N74 k74 w74 => ?_
         refine o_r3 [(43, (.ptr 0 1)), (44, (vL Val.c a1.fRoots)), (45, (.fn 113 [(.ptr 1 0)]))] ?_
         refine bnd h fun r75 g76 h => ?_
         refine o_o (one_callT [1, 0] (p_f112_b g76) (ns_v _)) ?_
         refine o_r1 [(47, (vB (!r75)))] ?_
         refine bnd h fun r77 g78 h => ?_
         refine o_o (one_call (p_f50 g78)) ?_
         refine o_r1 [(2, (vI r77))] ?_
         refine o_end (k74 _ ?_)
         exact c_ret (rets [] [(vI r77)] [(vI r77)] h)
       · intro N42 w42
         refine s_so fun N43 k43 w43 => ?_
         refine o_r2 [(31, (.ptr 0 0)), (32, (vL Node.c a1.fNodes))] ?_
         refine o_o (one_len (f := Node.c) (l := a1.fNodes)) ?_
         refine o_r1 [(34, (vI 0))] ?_
         refine o_end (k43 _ ?_)
         refine c_block fun E45 hE45 hO45 => ?_
         refine W1 (fun (x60 : Int) => ⟨(mkd .any 49 0 [(1, (.ptr 0 0)), (5, (.ptr 1 0)), (32, (vL Node.c a1.fNodes)), (33, (vI (len a1.fNodes))), (34, (vI x60))]), [(some (.box 26 [(vL Node.c a1.fNodes), (vL Val.c a1.fRoots)])), (some (.box 165 [(.fn 110 [(.ptr 0 0)])]))]⟩) (f74_l46 a1 n (f74_k42 n a1)) h (wkm [1, 5, 32, 33, 34] (whk (whk wh_nil))) (by intros; rw [f74_l46.eq_1]) ?_
         intro m46 x60 h N46 w46
         rw [f74_l46.eq_2] at h
         refine s_so fun N61 k61 w61 => ?_
         refine o_r1 [(35, (vB (decide (x60 < (len a1.fNodes)))))] ?_
         refine o_end (k61 _ ?_)
         refine s_seq fun N62 k62 w62 => ?_
         refine i_c [35] h (fun h => ?_) (fun h => ?_)
         · refine c_skip (k62 _ ?_)
           refine s_seq fun N64 k64 w64 => ?_
           refine c_block fun E65 hE65 hO65 => ?_
           refine s_so fun N66 k66 w66 => ?_
           refine bnd h fun x67 g68 h => ?_
           refine o_o (one_ia (f := Node.c) (ki := .i64) g68) ?_
           refine o_h3 [(7, (.ptr 3 0)), (37, (.agg [(vS x67.fClass), (vL Val.c x67.fVals)]))] [(some (.box 26 [(vL Node.c a1.fNodes), (vL Val.c a1.fRoots)])), (some (.box 165 [(.fn 110 [(.ptr 0 0)])])), (some (.row 59 2 (List.map Val.c []))), (some (.box 57 [(vS x67.fClass), (vL Val.c x67.fVals)]))] ?_
           refine o_end (k66 _ ?_)
           refine s_so fun N69 k69 w69 => ?_
           refine o_r3 [(38, (.ptr 3 1)), (39, (vL Val.c x67.fVals)), (40, (.fn 110 [(.ptr 0 0)]))] ?_
           refine bnd h fun r70 g71 h => ?_
           refine o_o (one_callT [0] (p_f112 g71) (ns_v _)) ?_
           refine o_end (k69 _ ?_)
           refine i_c [41] h (fun h => ?_) (fun h => ?_)
           · refine s_so fun N73 k73 w73 => ?_
             refine o_r1 [(2, (vI 2))] ?_
             refine o_end (k73 _ ?_)
             exact c_ret (rets [] [(vI 2)] [(vI 2)] h)
           · refine c_skip (k64 _ ?_)
             refine c_ops ?_
             refine o_r2 [(34, (vI (wr .i64 (x60 + 1)))), (42, (vI (wr .i64 (x60 + 1))))] ?_
             exact o_end (w46 _ _ (wkm [1, 5, 32, 33, 34] (whk (whk wh_nil))) h)
         · refine c_exit (hE45 _ ?_)
           exact w42 _ (wkm [1, 5] (whk (whk wh_nil))) h
     · intro N11 w11
       refine s_so fun N12 k12 w12 => ?_
       refine o_r2 [(18, (.ptr 0 0)), (19, (vL Node.c a1.fNodes))] ?_
       refine o_o (one_len (f := Node.c) (l := a1.fNodes)) ?_
       refine o_r1 [(21, (vI 0))] ?_
       refine o_end (k12 _ ?_)
       refine c_block fun E14 hE14 hO14 => ?_
       refine W1 (fun (x28 : Int) => ⟨(mkd .any 49 0 [(1, (.ptr 0 0)), (19, (vL Node.c a1.fNodes)), (20, (vI (len a1.fNodes))), (21, (vI x28))]), [(some (.box 26 [(vL Node.c a1.fNodes), (vL Val.c a1.fRoots)]))]⟩) (f74_l15 a1 (f74_k11 n a1)) h (wkm [1, 19, 20, 21] (whk wh_nil)) (by intros; rw [f74_l15.eq_1]) ?_
       intro m15 x28 h N15 w15
       rw [f74_l15.eq_2] at h
       refine s_so fun N29 k29 w29 => ?_
       refine o_r1 [(22, (vB (decide (x28 < (len a1.fNodes)))))] ?_
       refine o_end (k29 _ ?_)
       refine s_seq fun N30 k30 w30 => ?_
       refine i_c [22] h (fun h => ?_) (fun h => ?_)
       · refine c_skip (k30 _ ?_)
         refine s_seq fun N32 k32 w32 => ?_
         refine c_block fun E33 hE33 hO33 => ?_
         refine s_so fun N34 k34 w34 => ?_
         refine bnd h fun x35 g36 h => ?_
         refine o_o (one_ia (f := Node.c) (ki := .i64) g36) ?_
         refine o_h3 [(4, (.ptr 2 0)), (24, (.agg [(vS x35.fClass), (vL Val.c x35.fVals)]))] [(some (.box 26 [(vL Node.c a1.fNodes), (vL Val.c a1.fRoots)])), (some (.row 59 2 (List.map Val.c []))), (some (.box 57 [(vS x35.fClass), (vL Val.c x35.fVals)]))] ?_
         refine o_end (k34 _ ?_)
         refine s_so fun N37 k37 w37 => ?_
         refine o_r2 [(25, (.ptr 2 1)), (26, (vL Val.c x35.fVals))] ?_
         refine o_o (one_len (f := Val.c) (l := x35.fVals)) ?_
         refine o_r1 [(28, (vB (decide ((len x35.fVals) > 30))))] ?_
         refine o_end (k37 _ ?_)
         refine i_c [28] h (fun h => ?_) (fun h => ?_)
         · refine s_so fun N40 k40 w40 => ?_
           refine o_r1 [(2, (vI 3))] ?_
           refine o_end (k40 _ ?_)
           exact c_ret (rets [] [(vI 3)] [(vI 3)] h)
         · refine c_skip (k32 _ ?_)
           refine c_ops ?_
           refine o_r2 [(21, (vI (wr .i64 (x28 + 1)))), (29, (vI (wr .i64 (x28 + 1))))] ?_
           exact o_end (w15 _ _ (wkm [1, 19, 20, 21] (whk wh_nil)) h)
       · refine c_exit (hE14 _ ?_)
         exact w11 _ (wkm [1] (whk wh_nil)) h
 · intro N4 w4
   refine c_ops ?_
   refine o_r2 [(8, (.ptr 0 0)), (9, (vL Node.c a1.fNodes))] ?_
   refine o_o (one_len (f := Node.c) (l := a1.fNodes)) ?_
   refine o_r2 [(11, (vB (decide ((len a1.fNodes) > 400)))), (12, (vB (decide ((len a1.fNodes) > 400))))] ?_
   refine i_o [11, 12] h (fun h => ?_) (fun h => ?_)
   · refine o_r5 [(13, (.val undef)), (14, (.val undef)), (15, (.val undef)), (16, (.val undef)), (17, (vB true))] ?_
     exact o_end (w4 _ _ (wkm [1, 17] (whk wh_nil)) h)
   · refine o_r2 [(13, (.ptr 0 1)), (14, (vL Val.c a1.fRoots))] ?_
     refine o_g ?_
     refine o_o (one_len (f := Val.c) (l := a1.fRoots)) ?_
     refine o_r2 [(16, (vB (decide ((len a1.fRoots) > 60)))), (17, (vB (decide ((len a1.fRoots) > 60))))] ?_
     exact o_end (w4 _ _ (wkm [1, 17] (whk wh_nil)) h)
theorem ic98 : fnIC Try.prog H0 98 = some ([.tmp 3], 9, (.seq (.ops [zO 2 (.box 0 57 [(1, 59, 2, 0)] (.t 0)), zO 3 (.mov (.c (.bool false)))]) (.seq (.ops [zO 4 (.ld (.t 1) 1 false), zO 5 (.faddr (.t 2) 0), zO 6 (.ld (.t 5) 1 false), zO 7 (.call 52 [(.t 4), (.t 6)]), zO 8 (.sc (.bin .lss 3) [(.t 7), (.c (.int .i64 0))]), zM 3 8]) .ret))) := by kernel_rfl
def f98 (n : Nat) (a1 : Node) (a2 : (List Form)) : Option Bool := ((f52 n a2 a1.fClass).bind fun r5 => some (decide (r5 < 0)))
def f98_r (r : Bool) : AV := (vB r)
theorem p_f98 {n : Nat} {a1 : Node} {a2 : (List Form)} {r : Bool} (h : f98 n a1 a2 = some r) : PureSpec Try.prog 98 [(.agg [(vS a1.fClass), (vL Val.c a1.fVals)]), (.iptr [(vL Form.c a2)])] (f98_r r) := by
 rw [f98.eq_1] at h
 refine pure_of hmix ic98 ?_
 refine go_to (mkd (.val undef) 9 0 [(0, (.agg [(vS a1.fClass), (vL Val.c a1.fVals)])), (1, (.iptr [(vL Form.c a2)]))]) ?_
 refine s_so fun N3 k3 w3 => ?_
 refine o_h2 [(2, (.ptr 0 0)), (3, (vB false))] [(some (.box 57 [(vS a1.fClass), (vL Val.c a1.fVals)]))] ?_
 refine o_end (k3 _ ?_)
 refine s_so fun N4 k4 w4 => ?_
 refine o_r3 [(4, (vL Form.c a2)), (5, (.ptr 0 0)), (6, (vS a1.fClass))] ?_
 refine bnd h fun r5 g6 h => ?_
 refine o_o (one_call (p_f52 g6)) ?_
 refine o_r2 [(3, (vB (decide (r5 < 0)))), (8, (vB (decide (r5 < 0))))] ?_
 refine o_end (k4 _ ?_)
 exact c_ret (rets [] [(vB (decide (r5 < 0)))] [(vB (decide (r5 < 0)))] h)
theorem ic135 : fnIC Try.prog H0 135 = some ([.tmp 4], 19, (.seq (.ops [zO 4 (.mov (.c (.int .i64 0)))]) (.seq (.seq (.ops [zM 6 0, zO 7 (.len false (.t 6)), zO 8 (.mov (.c (.int .i64 0)))]) (.block 0 (.loop (.seq (.ops [zO 9 (.sc (.bin .lss 3) [(.t 8), (.t 7)])]) (.seq (.cond (.t 9)
  .skip
  (.exit 0)) (.seq (.block 1 (.seq (.ops [zM 10 8, zM 5 10]) (.seq (.ops [zM 11 1, zM 12 0, zM 13 5, zO 14 (.iaddr 2 (.t 12) (.t 13)), zO 15 (.ld (.t 14) 2 true), zO 16 (.callv (.t 11) [(.t 15)])]) (.cond (.t 16)
  (.seq (.ops [zM 17 5, zM 4 17]) .ret)
  .skip)))) (.ops [zO 18 (.sc (.bin .add 3) [(.t 8), (.c (.int .i64 1))]), zM 8 18]))))))) (.seq (.ops [zO 4 (.mov (.c (.int .i64 (-1))))]) .ret)))) := by kernel_rfl
def f135_k4 : Option Int := some (-1)
def f135_l8 (a1 : (List Node)) (n : Nat) (a2 : (List Form)) (k4k : Option Int) : Nat → Int → Option Int
  | 0, _ => none
  | m8 + 1, x22 => (bif (decide (x22 < (len a1))) then ((gi a1 x22).bind fun x30 => ((f98 n x30 a2).bind fun r32 => (bif r32 then some x22 else (f135_l8 a1 n a2 (k4k) m8 (wr .i64 (x22 + 1)))))) else (k4k))
def f135 (n : Nat) (a1 : (List Node)) (a2 : (List Form)) : Option Int := (f135_l8 a1 n a2 (f135_k4) n 0)
def f135_r (r : Int) : AV := (vI r)
theorem p_f135 {n : Nat} {a1 : (List Node)} {a2 : (List Form)} {r : Int} (h : f135 n a1 a2 = some r) : PureSpec Try.prog 135 [(vL Node.c a1), (.fn 98 [(.iptr [(vL Form.c a2)])])] (f135_r r) := by
 rw [f135.eq_1] at h
 refine pure_of hmix ic135 ?_
 refine go_to (mkd (.val undef) 19 0 [(0, (vL Node.c a1)), (1, (.fn 98 [(.iptr [(vL Form.c a2)])]))]) ?_
 refine s_so fun N3 k3 w3 => ?_
 refine o_r1 [(4, (vI 0))] ?_
 refine o_end (k3 _ ?_)
 refine J0 (r := r) ⟨(mkd .any 19 0 []), []⟩ (f135_k4) ?_ ?_
 · intro h
   rw [f135_k4.eq_1] at h
   refine s_so fun N36 k36 w36 => ?_
   refine o_r1 [(4, (vI (-1)))] ?_
   refine o_end (k36 _ ?_)
   exact c_ret (rets [] [(vI (-1))] [(vI (-1))] h)
 · intro N4 w4
   refine s_so fun N5 k5 w5 => ?_
   refine o_r1 [(6, (vL Node.c a1))] ?_
   refine o_o (one_len (f := Node.c) (l := a1)) ?_
   refine o_r1 [(8, (vI 0))] ?_
   refine o_end (k5 _ ?_)
   refine c_block fun E7 hE7 hO7 => ?_
   refine W1 (fun (x22 : Int) => ⟨(mkd .any 19 0 [(0, (vL Node.c a1)), (1, (.fn 98 [(.iptr [(vL Form.c a2)])])), (7, (vI (len a1))), (8, (vI x22))]), []⟩) (f135_l8 a1 n a2 (f135_k4)) h (wkm [0, 1, 7, 8] wh_nil) (by intros; rw [f135_l8.eq_1]) ?_
   intro m8 x22 h N8 w8
   rw [f135_l8.eq_2] at h
   refine s_so fun N23 k23 w23 => ?_
   refine o_r1 [(9, (vB (decide (x22 < (len a1)))))] ?_
   refine o_end (k23 _ ?_)
   refine s_seq fun N24 k24 w24 => ?_
   refine i_c [9] h (fun h => ?_) (fun h => ?_)
   · refine c_skip (k24 _ ?_)
     refine s_seq fun N26 k26 w26 => ?_
     refine c_block fun E27 hE27 hO27 => ?_
     refine s_so fun N28 k28 w28 => ?_
     refine o_r2 [(5, (vI x22)), (10, (vI x22))] ?_
     refine o_end (k28 _ ?_)
     refine s_so fun N29 k29 w29 => ?_
     refine o_r3 [(11, (.fn 98 [(.iptr [(vL Form.c a2)])])), (12, (vL Node.c a1)), (13, (vI x22))] ?_
     refine bnd h fun x30 g31 h => ?_
     refine o_o (one_ia (f := Node.c) (ki := .i64) g31) ?_
     refine o_r1 [(15, (.agg [(vS x30.fClass), (vL Val.c x30.fVals)]))] ?_
     refine bnd h fun r32 g33 h => ?_
     refine o_o (one_callv (caps := [(.iptr [(vL Form.c a2)])]) (p_f98 g33)) ?_
     refine o_end (k29 _ ?_)
     refine i_c [16] h (fun h => ?_) (fun h => ?_)
     · refine s_so fun N35 k35 w35 => ?_
       refine o_r2 [(4, (vI x22)), (17, (vI x22))] ?_
       refine o_end (k35 _ ?_)
       exact c_ret (rets [] [(vI x22)] [(vI x22)] h)
     · refine c_skip (k26 _ ?_)
       refine c_ops ?_
       refine o_r2 [(8, (vI (wr .i64 (x22 + 1)))), (18, (vI (wr .i64 (x22 + 1))))] ?_
       exact o_end (w8 _ _ (wkm [0, 1, 7, 8] wh_nil) h)
   · refine c_exit (hE7 _ ?_)
     exact w4 _ (wkm [] wh_nil) h
theorem ic97 : fnIC Try.prog H0 97 = some ([.tmp 4], 9, (.seq (.ops [zO 4 (.mov (.c (.bool false)))]) (.seq (.ops [zM 5 0, zM 6 1, zO 7 (.call 135 [(.t 5), (.t 6)]), zO 8 (.sc (.bin .geq 3) [(.t 7), (.c (.int .i64 0))]), zM 4 8]) .ret))) := by kernel_rfl
end Go.Proofs
end
