/- Texts of this claim, one behind the other. -/
import Derived.Test.YtbdgamoicleieaaGreatPcb
set_option linter.unusedVariables false
set_option linter.unusedSimpArgs false
set_option linter.unnecessarySimpa false
section
set_option linter.unusedVariables false
set_option linter.unusedSimpArgs false
namespace Go.Vm
open Go.RowKit
inductive Out where
  | n (s : St)
  | x (id : Nat) (s : St)
  | r (s : St)
def postO (R : St → Prop) (E : Nat → St → Prop) (N : St → Prop) : Out → Prop
  | .n s => N s
  | .x id s => E id s
  | .r s => R s
def bindN (f : St → Option (List Out)) : List Out → Option (List Out)
  | [] => some []
  | .n s :: l => (match f s, bindN f l with | some a, some b => some (a ++ b) | _, _ => none)
  | .x i s :: l => (match bindN f l with | some b => some (.x i s :: b) | none => none)
  | .r s :: l => (match bindN f l with | some b => some (.r s :: b) | none => none)
theorem bindN_get {f : St → Option (List Out)} : ∀ {l os : List Out}, bindN f l = some os → ∀ o ∈ l, (∃ s, o = .n s ∧ ∃ a, f s = some a ∧ ∀ x ∈ a, x ∈ os) ∨ ((∀ s, o ≠ .n s) ∧ o ∈ os)
  | [], os, h, o, ho => by cases ho
  | .n s0 :: l, os, h, o, ho => by
    simp only [bindN] at h
    split at h
    · rename_i a b ha hb
      simp only [Option.some.injEq] at h; subst h
      rcases List.mem_cons.1 ho with rfl | ho
      · exact .inl ⟨_, rfl, _, ha, fun x hx => List.mem_append_left _ hx⟩
      · rcases bindN_get hb o ho with ⟨s, h1, a', h2, h3⟩ | ⟨h1, h2⟩
        · exact .inl ⟨s, h1, a', h2, fun x hx => List.mem_append_right _ (h3 x hx)⟩
        · exact .inr ⟨h1, List.mem_append_right _ h2⟩
    · cases h
  | .x i0 s0 :: l, os, h, o, ho => by
    simp only [bindN] at h
    split at h
    · rename_i b hb
      simp only [Option.some.injEq] at h; subst h
      rcases List.mem_cons.1 ho with rfl | ho
      · exact .inr ⟨fun s e => (by cases e), by simp⟩
      · rcases bindN_get hb o ho with ⟨s, h1, a', h2, h3⟩ | ⟨h1, h2⟩
        · exact .inl ⟨s, h1, a', h2, fun x hx => List.mem_cons_of_mem _ (h3 x hx)⟩
        · exact .inr ⟨h1, List.mem_cons_of_mem _ h2⟩
    · cases h
  | .r s0 :: l, os, h, o, ho => by
    simp only [bindN] at h
    split at h
    · rename_i b hb
      simp only [Option.some.injEq] at h; subst h
      rcases List.mem_cons.1 ho with rfl | ho
      · exact .inr ⟨fun s e => (by cases e), by simp⟩
      · rcases bindN_get hb o ho with ⟨s, h1, a', h2, h3⟩ | ⟨h1, h2⟩
        · exact .inl ⟨s, h1, a', h2, fun x hx => List.mem_cons_of_mem _ (h3 x hx)⟩
        · exact .inr ⟨h1, List.mem_cons_of_mem _ h2⟩
    · cases h
noncomputable def loopE (f : St → Option (List Out)) (n : Nat) : St → Option (List Out) := Nat.rec (motive := fun _ => St → Option (List Out)) (fun _ => none) (fun _ ih s => match f s with | some os => bindN ih os | none => none) n
def blockE (id : Nat) : Out → Out
  | .x i s => match Nat.beq i id with | true => .n s | false => .x i s
  | o => o
def lowO (m : Nat) : Option AObj → Bool
  | some z => belowO m z
  | none => true
theorem wk_take {m : Nat} : ∀ (k : Nat) {hp : Heap}, (hp.take k).all (lowO m) = true → wkHp m hp (hp.take k)
  | 0, hp, _ => by cases hp <;> trivial
  | k + 1, [], _ => trivial
  | k + 1, x :: hp, h => by
    simp only [List.take_succ_cons, List.all_cons, Bool.and_eq_true] at h
    refine ⟨.inr ⟨rfl, ?_⟩, wk_take k h.2⟩
    cases x with
    | none => rfl
    | some z => exact h.1
def cutE (n : Nat) (hp : Heap) : Heap := (hp.take n).map fun x => match x with | some z => (match belowO n z with | true => some z | false => none) | none => none
theorem cutE_ok {n : Nat} : ∀ (k : Nat) (hp : Heap), wkHp n hp ((hp.take k).map fun x => match x with | some z => (match belowO n z with | true => some z | false => none) | none => none)
  | 0, hp => by cases hp <;> trivial
  | k + 1, [] => trivial
  | k + 1, x :: hp => by
    refine ⟨?_, cutE_ok k hp⟩
    cases x with
    | none => exact .inl rfl
    | some z =>
      dsimp only
      split
      · rename_i hb; exact .inr ⟨rfl, hb⟩
      · exact .inl rfl
def rdE (f : St → Option (List Out)) (s : St) (ps : List Nat) (mv : List (Nat × Nat)) (y : List AV) (hp : Heap) : Option Heap := match f ⟨moveAll (setAll s.tm ps y) mv, hp⟩ with
  | some [.n s'] => (match cutE s.hp.length s'.hp with | h => ifB (Nat.beq h.length s.hp.length && lowB s.hp h) (some h))
  | _ => none
def safeE (rd : List AV → Heap → Option Heap) (xs : List (List AV)) : Nat → Heap → Bool
  | 0, _ => true
  | k + 1, hp => xs.all fun y => match rd y hp with | some h => safeE rd xs k h | none => false
def foldE (rd : List AV → Heap → Option Heap) : List (List AV) → Heap → Option Heap
  | [], hp => some hp
  | y :: l, hp => match rd y hp with | some h => foldE rd l h | none => none
theorem foldE_snoc {rd : List AV → Heap → Option Heap} : ∀ {l : List (List AV)} {y : List AV} {hp h h' : Heap}, foldE rd l hp = some h → rd y h = some h' → foldE rd (l ++ [y]) hp = some h'
  | [], y, hp, h, h', e, k => by simp only [foldE, Option.some.injEq] at e; subst e; simp [foldE, k]
  | z :: l, y, hp, h, h', e, k => by
    simp only [foldE] at e
    simp only [List.cons_append, foldE]
    split at e
    · exact foldE_snoc e k
    · cases e
theorem lowOf_refl (h : Heap) : lowOf h h := fun o x hx hn => ⟨x, hx, by cases x <;> first | rfl | cases hn⟩
def EvT : Type := Env → Nat → St → Option (List Out)
noncomputable def bSkip : EvT := fun e L s => some [.n s]
noncomputable def bBad : EvT := fun e L s => none
def bS (o : Option St) : Option (List Out) := match o with | some s' => some [.n s'] | none => none
noncomputable def bOps (l : List IOp) : EvT := fun e L s => bS (evOps e l s)
noncomputable def bDraw (q : List Nat) (l : List DOp) : EvT := fun e L s => ifB (noHoles s.hp q) (match s.hp ++ q.map (fun i => some (.hole i)) with
    | hp => bS (evDraw e [] [hp] l ⟨s.tm, hp⟩))
noncomputable def bSeq (a b : IC) (fa fb : EvT) : EvT := fun e L s => match fa e L s with | some os => bindN (fb e L) os | none => none
def bFork (x y : Option (List Out)) : Option (List Out) := match x, y with | some x, some y => some (x ++ y) | _, _ => none
noncomputable def bCond (c : Arg) (a b : IC) (fa fb : EvT) : EvT := fun e L s => match evq s c with
    | .val (.bool t) => Bool.rec (motive := fun _ => Option (List Out)) (fb e L s) (fa e L s) t
    | .bl => bFork (fa e L s) (fb e L s)
    | _ => none
noncomputable def bBlock (id : Nat) (a : IC) (fa : EvT) : EvT := fun e L s => match fa e L s with | some os => some (os.map (blockE id)) | none => none
noncomputable def bLoop (a : IC) (fa : EvT) : EvT := fun e L s => loopE (fa e L) L s
noncomputable def bExit (id : Nat) : EvT := fun e L s => some [.x id s]
noncomputable def bRet : EvT := fun e L s => some [.r s]
noncomputable def bRf (xs : List (List AV)) (f : St → Option (List Out)) (s : St) (ps : List Nat) (mv : List (Nat × Nat)) : Option (List Out) :=
  ifB ((xs.all fun y => Nat.beq y.length ps.length && y.all fun a => (toV a).isSome) && safeE (rdE f s ps mv) xs xs.length s.hp)
    (match foldE (rdE f s ps mv) xs s.hp with | some h => some [.n ⟨s.tm, h⟩] | none => none)
noncomputable def bRfun (x : Arg) (ps : List Nat) (mv : List (Nat × Nat)) (b : IC) (fb : EvT) : EvT := fun e L s => match evq s x with
    | .fn g caps => (match omap (frzE s.hp [] 9) caps with
      | some caps' => (match e.it g caps' with
        | some xs => bRf xs (fb e L) s ps mv
        | none => none)
      | none => none)
    | _ => none
noncomputable def evI (ic : IC) : EvT := IC.rec (motive := fun _ => EvT) bSkip bBad bOps bDraw bSeq bCond bBlock bLoop bExit bRet bRfun ic
noncomputable def evC (e : Env) (L : Nat) (ic : IC) (s : St) : Option (List Out) := evI ic e L s
theorem evC_ok {e : Env} (he : EnvOk e) (L : Nat) : ∀ (ic : IC) (s : St) (os : List Out), evC e L ic s = some os → ∀ (m0 : Nat) (R : St → Prop) (E : Nat → St → Prop) (N : St → Prop), (∀ o ∈ os, postO R E N o) → vC e.P m0 R ic E N s := by
  intro ic
  induction ic with
  | skip => intro s os h m0 R E N hp; have h : some [Out.n s] = some os := h; simp only [Option.some.injEq] at h; subst h; exact hp (.n s) (by simp)
  | bad => intro s os h; cases h
  | ops l =>
    intro s os h m0 R E N hp
    have h : bS (evOps e l s) = some os := h
    unfold bS at h
    split at h
    · rename_i s' hs
      simp only [Option.some.injEq] at h; subst h
      exact evOps_ok he l s s' hs (hp (.n s') (by simp))
    · cases h
  | draw q l =>
    intro s os h m0 R E N hp
    have h : ifB (noHoles s.hp q) (bS (evDraw e [] [s.hp ++ q.map (fun i => some (.hole i))] l ⟨s.tm, s.hp ++ q.map (fun i => some (.hole i))⟩)) = some os := h
    unfold bS at h
    obtain ⟨h1, h⟩ := ifB_some h
    split at h
    · rename_i s' hs
      simp only [Option.some.injEq] at h; subst h
      exact ⟨h1, evDraw_ok he l _ _ _ s' hs (hp (.n s') (by simp))⟩
    · cases h
  | seq a b iha ihb =>
    intro s os h m0 R E N hp
    have h : (match evC e L a s with | some os => bindN (evC e L b) os | none => none) = some os := h
    split at h
    · rename_i os1 h1
      refine iha s os1 h1 m0 R E _ (fun o ho => ?_)
      rcases bindN_get h o ho with ⟨s', rfl, a', h2, h3⟩ | ⟨h2, h3⟩
      · exact ⟨s', .inl rfl, ihb s' a' h2 m0 R E N (fun x hx => hp x (h3 x hx))⟩
      · cases o with
        | n s => exact (h2 s rfl).elim
        | x id s => exact hp _ h3
        | r s => exact hp _ h3
    · cases h
  | cond c a b iha ihb =>
    intro s os h m0 R E N hp
    have h : (match evq s c with
      | .val (.bool t) => Bool.rec (motive := fun _ => Option (List Out)) (evC e L b s) (evC e L a s) t
      | .bl => bFork (evC e L a s) (evC e L b s)
      | _ => none) = some os := h
    simp only [evq_eq] at h
    simp only [vC]
    split at h
    · rename_i t hc
      simp only [hc]
      cases t with
      | true => simp only [if_true]; exact iha s os h m0 R E N hp
      | false => simp only [Bool.false_eq_true, if_false]; exact ihb s os h m0 R E N hp
    · rename_i hc
      unfold bFork at h
      split at h
      · rename_i x y hx hy
        simp only [Option.some.injEq] at h; subst h
        simp only [hc]
        exact ⟨iha s x hx m0 R E N (fun o ho => hp o (List.mem_append_left _ ho)), ihb s y hy m0 R E N (fun o ho => hp o (List.mem_append_right _ ho))⟩
      · cases h
    · cases h
  | block id a iha =>
    intro s os h m0 R E N hp
    have h : (match evC e L a s with | some os => some (os.map (blockE id)) | none => none) = some os := h
    split at h
    · rename_i os1 h1
      simp only [Option.some.injEq] at h; subst h
      refine iha s os1 h1 m0 R _ N (fun o ho => ?_)
      have h2 := hp (blockE id o) (List.mem_map_of_mem ho)
      cases o with
      | n s => exact h2
      | r s => exact h2
      | x i s =>
        simp only [blockE] at h2
        simp only [postO]
        split at h2
        · rename_i hb; rw [if_pos (Nat.eq_of_beq_eq_true hb)]; exact h2
        · rename_i hb
          rw [if_neg (fun hi => by rw [hi, Nat.beq_refl] at hb; cases hb)]; exact h2
    · cases h
  | loop a iha =>
    intro s os h m0 R E N hp
    have h : loopE (evC e L a) L s = some os := h
    refine ⟨fun m s => ∃ os, loopE (evC e L a) m s = some os ∧ ∀ o ∈ os, postO R E (fun _ => False) o ∨ ∃ s, o = .n s, ⟨L, s, .inl rfl, os, h, fun o ho => ?_⟩, ?_⟩
    · cases o with
      | n s => exact .inr ⟨s, rfl⟩
      | x id s => exact .inl (hp _ ho)
      | r s => exact .inl (hp _ ho)
    · rintro m s ⟨os, h, hp⟩
      cases m with
      | zero => cases h
      | succ m =>
        have h : (match evC e L a s with | some os => bindN (loopE (evC e L a) m) os | none => none) = some os := h
        split at h
        · rename_i os1 h1
          refine iha s os1 h1 m0 R E _ (fun o ho => ?_)
          rcases bindN_get h o ho with ⟨s', rfl, a', h2, h3⟩ | ⟨h2, h3⟩
          · exact ⟨m, by omega, s', .inl rfl, a', h2, fun o ho => hp o (h3 o ho)⟩
          · rcases hp o h3 with h4 | ⟨s', h4⟩
            · cases o with
              | n s => exact (h2 s rfl).elim
              | x id s => exact h4
              | r s => exact h4
            · exact (h2 s' h4).elim
        · cases h
  | exit id => intro s os h m0 R E N hp; have h : some [Out.x id s] = some os := h; simp only [Option.some.injEq] at h; subst h; exact hp (.x id s) (by simp)
  | ret => intro s os h m0 R E N hp; have h : some [Out.r s] = some os := h; simp only [Option.some.injEq] at h; subst h; exact hp (.r s) (by simp)
  | rfun x ps mv b ihb =>
    intro s os h m0 R E N hp
    have h : (match evq s x with
      | .fn g caps => (match omap (frzE s.hp [] 9) caps with
        | some caps' => (match e.it g caps' with
          | some xs => bRf xs (evC e L b) s ps mv
          | none => none)
        | none => none)
      | _ => none) = some os := h
    simp only [evq_eq, bRf] at h
    split at h
    · rename_i g caps hx
      split at h
      · rename_i caps' hc
        split at h
        · rename_i xs hxs
          obtain ⟨h1, h⟩ := ifB_some h
          simp only [Bool.and_eq_true] at h1
          split at h
          · rename_i hfin hf
            simp only [Option.some.injEq] at h; subst h
            generalize hrd : rdE (evC e L b) s ps mv = rd at h1 hf
            refine ⟨g, caps, caps', xs, fun ys hp => foldE rd ys s.hp = some hp ∧ safeE rd xs (xs.length - ys.length) hp = true ∧ hp.length = s.hp.length ∧ lowOf s.hp hp, hx, frzEL_ok hc, he.it _ _ _ hxs, fun y hy => ?_, ⟨rfl, by simpa using h1.2, rfl, lowOf_refl _⟩, fun ys hp hJ => hJ.2.2, ?_, ?_⟩
            · have := List.all_eq_true.1 h1.1 y hy
              simp only [Bool.and_eq_true, nbq] at this
              exact ⟨this.1, List.all_eq_true.1 this.2⟩
            · rintro ys y hp0 ⟨j1, j2, j3, j4⟩ hy hlt
              have e1 : xs.length - ys.length = (xs.length - (ys ++ [y]).length) + 1 := by simp; omega
              rw [e1] at j2
              simp only [safeE] at j2
              have j5 := List.all_eq_true.1 j2 y hy
              split at j5
              · rename_i h' hr
                have hr' := hr
                rw [← hrd] at hr'
                unfold rdE at hr'
                split at hr'
                · rename_i s' hs'
                  simp only at hr'
                  obtain ⟨k1, k2⟩ := ifB_some hr'
                  simp only [Bool.and_eq_true, nbq] at k1
                  simp only [Option.some.injEq] at k2
                  refine ihb _ _ hs' _ _ _ _ (fun o ho => ?_)
                  simp only [List.mem_cons, List.not_mem_nil, or_false] at ho
                  subst ho
                  refine ⟨h', ⟨by rw [← k2]; exact k1.1, by rw [← k2]; exact cutE_ok _ _⟩, foldE_snoc j1 hr, j5, by rw [← k2]; exact k1.1, by rw [← k2]; exact lowB_ok k1.2⟩
                · cases hr'
              · cases j5
            · rintro hp0 ⟨j1, _⟩
              rw [hf] at j1
              simp only [Option.some.injEq] at j1
              subst j1
              exact hp (.n _) (by simp)
          · cases h
        · cases h
      · cases h
    · cases h
def outS : Out → Option St
  | .n s | .r s => some s
  | .x .. => none
noncomputable def retE (P : Program) (rs : List ResultVar) (s : St) : Option AV := match rs.mapM (resA P s) with
  | some az => (match omap (frzE s.hp (az.flatMap (tE s.hp 9)) 9) az with | some bs => some (packA bs) | none => none)
  | none => none
def oneOf {α : Type} (q : α → α → Bool) (f : St → Option α) : List Out → Option α
  | [] => none
  | o :: l => match outS o with
    | some s => (match f s with
      | some r => ifB (l.all fun o => match outS o with | some s => (match f s with | some r' => q r' r | none => false) | none => false) (some r)
      | none => none)
    | none => none
theorem oneOf_ok {α : Type} {q : α → α → Bool} (hq : ∀ a b, q a b = true → a = b) {f : St → Option α} {os : List Out} {r : α} (h : oneOf q f os = some r) : ∀ o ∈ os, ∃ s, outS o = some s ∧ f s = some r := by
  cases os with
  | nil => cases h
  | cons o l =>
    simp only [oneOf] at h
    split at h
    · rename_i s hs
      split at h
      · rename_i r0 hr
        obtain ⟨h1, h⟩ := ifB_some h
        simp only [Option.some.injEq] at h; subst h
        intro o' ho
        rcases List.mem_cons.1 ho with rfl | ho
        · exact ⟨s, hs, hr⟩
        · have h2 := List.all_eq_true.1 h1 o' ho
          split at h2
          · rename_i s' hs'
            split at h2
            · rename_i r' hr'
              exact ⟨s', hs', by rw [hr', hq _ _ h2]⟩
            · cases h2
          · cases h2
      · cases h
    · cases h
def hpE (m0 : Nat) (az : List AV) (hp : Heap) : Nat := match az.all (belowA m0) && (hp.take m0).all (lowO m0) with
  | true => m0
  | false => hp.length
noncomputable def retHE (P : Program) (rs : List ResultVar) (m0 : Nat) (s : St) : Option (AV × Heap) := match rs.mapM (resA P s) with
  | some az => (match s.hp.take (hpE m0 az s.hp) with
    | hp' => ifB (Nat.ble m0 hp'.length && az.all (belowA hp'.length) && hp'.all (lowO hp'.length)) (some (packA az, hp')))
  | none => none
theorem wkTm_refl {m : Nat} : ∀ {l : List AV}, l.all (belowA m) = true → wkTm m l l
  | [], _ => trivial
  | a :: l, h => by
    simp only [List.all_cons, Bool.and_eq_true] at h
    exact ⟨.inr ⟨rfl, h.1⟩, wkTm_refl h.2⟩
noncomputable def runPE (P : Program) (e : Env) (L : Nat) (H : Hint) (f : Nat) (az : List AV) : Option AV := match fnIC P H f with
  | some (rs, n, ic) => (match evC e L ic (start n az []) with | some os => oneOf (aeq 9) (retE P rs) os | none => none)
  | none => none
noncomputable def runHE (P : Program) (e : Env) (L : Nat) (H : Hint) (f : Nat) (az : List AV) (hp : Heap) : Option (AV × Heap) := match fnIC P H f with
  | some (rs, n, ic) => (match evC e L ic (start n az hp) with | some os => oneOf (fun a b => aeq 9 a.1 b.1 && leq oeq a.2 b.2) (retHE P rs hp.length) os | none => none)
  | none => none
theorem runPE_ok {e : Env} (he : EnvOk e) (hmix : e.P.follows .mixedOrders = true) {L : Nat} {H : Hint} {f : Nat} {az : List AV} {r : AV} (h : runPE e.P e L H f az = some r) : PureSpec e.P f az r := by
  unfold runPE at h
  split at h
  · rename_i rs n ic hf
    split at h
    · rename_i os ho
      have key := oneOf_ok (fun a b => aeq_ok 9 a b) h
      have fin : ∀ s, retE e.P rs s = some r → retP e.P rs r s := fun s hs => by
        unfold retE at hs
        split at hs
        · rename_i us hu
          split at hs
          · rename_i bs hb
            simp only [Option.some.injEq] at hs
            exact ⟨us, bs, _, hu, frzEL_ok hb, hs⟩
          · cases hs
        · cases hs
      refine pure_of hmix hf (evC_ok he L ic _ os ho 0 _ _ _ (fun o hm => ?_))
      obtain ⟨s, h1, h2⟩ := key o hm
      cases o with
      | n s' => simp only [outS, Option.some.injEq] at h1; subst h1; exact fin _ h2
      | r s' => simp only [outS, Option.some.injEq] at h1; subst h1; exact fin _ h2
      | x id s' => cases h1
    · cases h
  · cases h
theorem runHE_ok {e : Env} (he : EnvOk e) (hmix : e.P.follows .mixedOrders = true) {L : Nat} {H : Hint} {f : Nat} {az : List AV} {hp hp' : Heap} {r : AV} (h : runHE e.P e L H f az hp = some (r, hp')) : HSpec e.P f az hp r hp' := by
  unfold runHE at h
  split at h
  · rename_i rs n ic hf
    split at h
    · rename_i os ho
      have key := oneOf_ok (fun a b hab => by
        simp only [Bool.and_eq_true] at hab
        exact Prod.ext (aeq_ok _ _ _ hab.1) (leq_ok oeq_ok hab.2)) h
      have fin : ∀ s, retHE e.P rs hp.length s = some (r, hp') → retH e.P rs hp.length r hp' s := fun s hs => by
        unfold retHE at hs
        split at hs
        · rename_i us hu
          simp only at hs
          obtain ⟨k1, k2⟩ := ifB_some hs
          simp only [Bool.and_eq_true] at k1
          simp only [Option.some.injEq, Prod.mk.injEq] at k2
          obtain ⟨rfl, rfl⟩ := k2
          exact ⟨us, us, hu, ⟨Nat.le_of_ble_eq_true k1.1.1, wkTm_refl k1.1.2, wk_take _ k1.2⟩, rfl⟩
        · cases hs
      refine heap_of hmix hf (evC_ok he L ic _ os ho _ _ _ _ (fun o hm => ?_))
      obtain ⟨s, h1, h2⟩ := key o hm
      cases o with
      | n s' => simp only [outS, Option.some.injEq] at h1; subst h1; exact fin _ h2
      | r s' => simp only [outS, Option.some.injEq] at h1; subst h1; exact fin _ h2
      | x id s' => cases h1
    · cases h
  · cases h
def orE (a b : Option AV) : Option AV := match a with | some r => some r | none => b
noncomputable def envE (P : Program) (hs : Nat → Bool) (Hf : Nat → Hint) (it : Nat → List AV → Option (List (List AV))) (mm : Nat → List AV → Option AV) (L : Nat) (n : Nat) : Env :=
  Nat.rec (motive := fun _ => Env) ⟨P, hs, mm, fun _ _ _ => none, it⟩
    (fun _ e => ⟨P, hs, fun f us => orE (mm f us) (runPE P e L (Hf f) f us), fun f us hp => runHE P e L (Hf f) f us hp, it⟩) n
section
variable {P : Program} {hs : Nat → Bool} {Hf : Nat → Hint} {it : Nat → List AV → Option (List (List AV))} {mm : Nat → List AV → Option AV} {L : Nat}
theorem envE_P (n : Nat) : (envE P hs Hf it mm L n).P = P := by cases n <;> rfl
theorem envE_ok (hmix : P.follows .mixedOrders = true) (hit : ∀ g caps xs, it g caps = some xs → IterSpec P g caps xs) (hmm : ∀ f us r, mm f us = some r → PureSpec P f us r) : ∀ n, EnvOk (envE P hs Hf it mm L n)
  | 0 => ⟨hmm, fun f us hp r hp' h => (by cases h), hit⟩
  | n + 1 => by
    have ih := envE_ok hmix hit hmm n
    refine ⟨fun f us r h => ?_, fun f us hp r hp' h => ?_, hit⟩
    · have h : orE (mm f us) (runPE P (envE P hs Hf it mm L n) L (Hf f) f us) = some r := h
      unfold orE at h
      split at h
      · rename_i hk
        rw [← Option.some.inj h]
        exact hmm _ _ _ hk
      · have := runPE_ok ih (by rw [envE_P]; exact hmix) (L := L) (H := Hf f) (f := f) (az := us) (r := r) (by rw [envE_P]; exact h)
        rw [envE_P] at this
        exact this
    · have h : runHE P (envE P hs Hf it mm L n) L (Hf f) f us hp = some (r, hp') := h
      have := runHE_ok ih (by rw [envE_P]; exact hmix) (L := L) (H := Hf f) (f := f) (az := us) (hp := hp) (r := r) (hp' := hp') (by rw [envE_P]; exact h)
      rw [envE_P] at this
      exact this
end
end Go.Vm
end
section
namespace Go.Proofs
open Go.Vm
def hsE (f : Nat) : Bool := [35, 109, 62, 23, 76, 103, 105].contains f
def HfE (f : Nat) : Hint := ⟨[35, 109, 62, 23], match f with | 922 => [5] | 35 => [5] | 73 => [115] | 11 => [117] | 23 => [6] | 65 => [68, 38, 66] | 10 => [47, 52] | _ => [], match f with | 10 => false | _ => true⟩
def valE : List AV → Option Val
  | [.val (.int .i64 k), .val (.int .i64 n)] => some ⟨k, n⟩
  | _ => none
def itE (g : Nat) (caps : List AV) : Option (List (List AV)) := match g, caps with
  | 130, [.iptr [.sl xs]] => (match omap valE xs with | some l => some ((refsOf l).map cI) | none => none)
  | _, _ => none
theorem itE_ok : ∀ g caps xs, itE g caps = some xs → IterSpec Tryz.prog g caps xs := by
  intro g caps xs h
  unfold itE at h
  split at h
  · rename_i xs
    split at h
    · rename_i l hl
      simp only [Option.some.injEq] at h; subst h
      have e : xs = l.map Val.c := by
        rw [omap_eq] at hl
        obtain ⟨m1, m2⟩ := mapM_some hl
        apply List.ext_getElem?
        intro i
        rw [List.getElem?_map]
        rcases Nat.lt_or_ge i xs.length with hi | hi
        · obtain ⟨c, hc, hcc⟩ := m2 i xs[i] (List.getElem?_eq_getElem hi)
          rw [hc, List.getElem?_eq_getElem hi]
          unfold valE at hcc
          split at hcc
          · rename_i k n hn
            simp only [Option.some.injEq] at hcc
            rw [hn, ← hcc]; rfl
          · cases hcc
        · rw [List.getElem?_eq_none hi, List.getElem?_eq_none (by omega)]; rfl
      rw [e]
      exact iter136 l
    · cases h
  · cases h
set_option maxRecDepth 100000 in
theorem sanity15 : PureSpec Tryz.prog 10 [] (.val (.bool true)) := by
  have h := (envE_ok (P := Tryz.prog) (hs := hsE) (Hf := HfE) (it := itE) (mm := fun _ _ => none) (L := 1000) (by kernel_rfl) itE_ok (fun _ _ _ h => by cases h) 40).pf 10 [] (.val (.bool true)) (by kernel_rfl)
  rw [envE_P] at h
  exact h
end Go.Proofs
end
