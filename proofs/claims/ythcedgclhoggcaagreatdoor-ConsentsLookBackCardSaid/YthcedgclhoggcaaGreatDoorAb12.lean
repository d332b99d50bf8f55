/- A part of an abstract logic over the model's runs, proved sound against the model; no condition. -/
import Derived.Test.YthcedgclhoggcaaGreatDoorAb11b
/-! Regions in the text's order; control; a function's body. -/
set_option linter.unusedVariables false
set_option linter.unusedSimpArgs false
namespace Go.Ab
open Go.RowKit
variable {P : Program} {w w' : World} {g g' : Gh} {G : Nat → AV} {N : Nat} {st : St} {a : Act}

def ltD (N : Nat) : Option Nat → Bool
  | some k => decide (k < N)
  | none => true
/-- An operation with its slot, its guard's slot and what it waits for. -/
def absOper (P : Program) (N : Nat) (own : List Nat) (ops : Array Oper) (o : Oper) : Option AOper :=
  if ltD N o.dst then match some ((absOp P own o.dst o.op).getD .bad) with
    | some ao => match o.guard with
      | none => some ⟨o.dst, ao, none, (o.after.toList.filter (Region.binds .any)).map (·.on)⟩
      | some (j, b) => match (ops[j]?).bind (·.dst) with
        | some d => if d < N then some ⟨o.dst, ao, some (d, b), (o.after.toList.filter (Region.binds .any)).map (·.on)⟩ else none
        | none => none
    | none => none
  else none
def absOpers (P : Program) (N : Nat) (own : List Nat) (ops : Array Oper) : List Oper → Option (List AOper)
  | [] => some []
  | o :: os => match absOper P N own ops o, absOpers P N own ops os with
    | some x, some xs => some (x :: xs)
    | _, _ => none

theorem absOper_some {own : List Nat} {ops : Array Oper} {o : Oper} {x : AOper} (h : absOper P N own ops o = some x) :
    x.d = o.dst ∧ (∀ k, o.dst = some k → k < N) ∧ (absOp P own o.dst o.op).getD .bad = x.o ∧ x.af = (o.after.toList.filter (Region.binds .any)).map (·.on) ∧
      ((o.guard = none ∧ x.g = none) ∨ ∃ j b d, o.guard = some (j, b) ∧ (ops[j]?).bind (·.dst) = some d ∧ d < N ∧ x.g = some (d, b)) := by
  unfold absOper at h
  split at h
  · rename_i hd
    have hd' : ∀ k, o.dst = some k → k < N := fun k hk => by rw [hk] at hd; simpa [ltD] using hd
    split at h
    · rename_i ao hao
      have hao := Option.some.inj hao
      split at h
      · rename_i hg; cases h; exact ⟨rfl, hd', hao, rfl, .inl ⟨hg, rfl⟩⟩
      · rename_i j b hg
        split at h
        · rename_i d hj
          split at h
          · rename_i hdN; cases h; exact ⟨rfl, hd', hao, rfl, .inr ⟨j, b, d, hg, hj, hdN, rfl⟩⟩
          · cases h
        · cases h
    · cases h
  · cases h
/-- Whether a guard lets it run. -/
theorem wanted_of {ops : Array Oper} {o : Oper} (hR : Rel G N st g a w) {j : Nat} {b c : Bool} {d : Nat} (hg : o.guard = some (j, b)) (hj : (ops[j]?).bind (·.dst) = some d) (hd : d < N) (hc : st.fr d = .lit (.bool c)) : Region.wanted o (yielded ops a.tmps) = (c == b) := by
  have h1 := hR.fr d
  rw [hc] at h1
  have h2 : a.tmps.getD d undef = .bool c := h1
  rw [← hR.sz] at hd
  have h3 : a.tmps[d]? = some (.bool c) := by
    rw [Array.getElem?_eq_getElem hd]
    simpa [Array.getD_eq_getD_getElem?, hd] using h2
  simp only [Region.wanted, hg, yielded, hj, Option.bind_some, h3]
  cases b <;> cases c <;> rfl

theorem wanted_of_tuple {ops : Array Oper} {o : Oper} (hR : Rel G N st g a w) {j : Nat} {b : Bool} {d : Nat} {vs : Array Value} (hg : o.guard = some (j, b)) (hj : (ops[j]?).bind (·.dst) = some d) (hd : d < N) (hc : st.fr d = .lit (.tuple vs)) : Region.wanted o (yielded ops a.tmps) = false := by
  have h1 := hR.fr d
  rw [hc] at h1
  have h2 : a.tmps.getD d undef = .tuple vs := h1
  rw [← hR.sz] at hd
  have h3 : a.tmps[d]? = some (.tuple vs) := by
    rw [Array.getElem?_eq_getElem hd]
    simpa [Array.getD_eq_getD_getElem?, hd] using h2
  simp only [Region.wanted, hg, yielded, hj, Option.bind_some, h3]
  cases b <;> rfl

theorem aop_sound' {own : List Nat} {o : Oper} {next : Act → World → Prop} {Q : Exit → Act → World → Prop} {K : St → Prop} (hR : Rel G N st g a w) (hd : ∀ k, o.dst = some k → k < N) (hn : Next G N w g K next) {ao : AOp} (hab : (absOp P own o.dst o.op).getD .bad = ao) (h : aop P G ao o.dst st K) : o.wp P a w next Q := by
  cases hx : absOp P own o.dst o.op with
  | some y => rw [hx] at hab; cases hab; exact aop_sound hR hd hn hx h
  | none =>
    rw [hx] at hab
    cases hab
    obtain ⟨v, h1, _⟩ := h
    simp [aval] at h1
theorem aops_sound {own : List Nat} {ops : Array Oper} {Q : Exit → Act → World → Prop} : ∀ (l : List Oper) (al : List AOper) (st : St) (g : Gh) (a : Act) (w : World) (K : St → Prop), absOpers P N own ops l = some al → aops P G al st K → Rel G N st g a w →
    (∀ st' g' a' w', K st' → Rel G N st' g' a' w' → Step w g w' g' → Q .normal a' w') → wpList P ops Q l a w
  | [], al, st, g, a, w, K, hal, h, hR, hK => by
    cases hal
    exact hK st g a w h hR (Step.refl _ _)
  | o :: os, al, st, g, a, w, K, hal, h, hR, hK => by
    simp only [absOpers] at hal
    split at hal
    · rename_i x xs h1 h2
      cases hal
      obtain ⟨e1, e2, e3, _, e4⟩ := absOper_some h1
      refine wpList_step fun K' hK' => ?_
      have rest : ∀ (st : St) (g1 : Gh) (a1 : Act) (w1 : World), aops P G xs st K → Rel G N st g1 a1 w1 → Step w g w1 g1 → K' a1 w1 := fun st1 g1 a1 w1 hh hR1 hS1 =>
        hK' _ _ (aops_sound os xs st1 g1 a1 w1 K h2 hh hR1 fun st' g' a' w' k1 k2 k3 => hK st' g' a' w' k1 k2 (hS1.trans k3))
      simp only [aops] at h
      rcases e4 with ⟨e4, e5⟩ | ⟨j, b, d, e4, e5, e6, e7⟩
      · rw [e5] at h
        simp only [Region.wanted, e4, if_true]
        rw [e1] at h
        exact aop_sound' hR e2 (fun st' g' a' w' k1 k2 k3 => rest st' g' a' w' k1 k2 k3) e3 h
      · rw [e7] at h
        simp only at h
        split at h
        · rename_i c hc
          rw [wanted_of hR e4 e5 e6 hc]
          obtain ⟨h3, h4⟩ := h
          rw [e1] at h3 h4
          by_cases hcb : c = b
          · subst hcb
            rw [if_pos (by simp)]
            have hR' : Rel G N { st with fr := upd st.fr d (.bool c) } g a w := hR.reset (x := .bool c) (by have := hR.fr d; rw [hc] at this; exact this)
            exact aop_sound' hR' e2 (fun st' g' a' w' k1 k2 k3 => rest st' g' a' w' k1 k2 k3) e3 (h3 rfl)
          · have hcb' : c = !b := by cases c <;> cases b <;> first | rfl | exact absurd rfl hcb
            rw [if_neg (by cases c <;> cases b <;> first | decide | exact absurd rfl hcb)]
            have hR' : Rel G N { st with fr := upd st.fr d (.bool (!b)) } g a w := hR.reset (x := .bool (!b)) (by have := hR.fr d; rw [hc, hcb'] at this; exact this)
            have hR2 := hR'.put (Step.refl w g) hR.inv e2 (x := .und) (v := undef) rfl
            refine rest _ g _ w (h4 hcb') ?_ (Step.refl _ _)
            rw [hR.H, hR.n] at hR2
            exact hR2
        · rename_i vs hc
          rw [wanted_of_tuple hR e4 e5 e6 hc]
          rw [if_neg (by decide)]
          rw [e1] at h
          have hR2 := hR.put (Step.refl w g) hR.inv e2 (x := .und) (v := undef) rfl
          refine rest _ g _ w h ?_ (Step.refl _ _)
          rw [hR.H, hR.n] at hR2
          exact hR2
        · exact h.elim
    · cases hal

/-! Control. -/
inductive AExit where
  | normal
  | exit (id : Nat)
  | ret
/-- A state known less well. -/
structure Weak (st st' : St) : Prop where
  fr : ∀ s, st'.fr s = st.fr s ∨ st'.fr s = .any
  H : Sub st'.H st.H
  n : st'.n = st.n
theorem Weak.refl (st : St) : Weak st st := ⟨fun _ => .inl rfl, Sub.refl _, rfl⟩
theorem Rel.weak (hR : Rel G N st g a w) {st' : St} (h : Weak st st') : ∃ g', Rel G N st' g' a w ∧ Step w g w g' := by
  have hs : Sub st'.H g.H := by rw [hR.H]; exact h.H
  have hS := step_less w g hs
  refine ⟨g.less st'.H, ⟨rfl, by rw [h.n]; exact hR.n, inv_less hR.inv hs, fun k => (hR.gl k).mono hS, fun s => ?_, hR.sz, hR.df⟩, hS⟩
  rcases h.fr s with h1 | h1
  · rw [h1]; exact (hR.fr s).mono hS
  · rw [h1]; trivial
/-- A state known less well, or one some of whose objects are only read from now on. -/
def Soft (st st' : St) : Prop := Weak st st' ∨ ∃ D k, Froz st st' D k
theorem Soft.refl (st : St) : Soft st st := .inl (Weak.refl st)
theorem Rel.soft (hR : Rel G N st g a w) {st' : St} (h : Soft st st') : ∃ g', Rel G N st' g' a w ∧ Step w g w g' := by
  rcases h with h | ⟨D, k, h⟩
  · exact hR.weak h
  · exact hR.froz h

def seqQ (next : St → Prop) (Q : AExit → St → Prop) : AExit → St → Prop
  | .normal, st => next st
  | e, st => Q e st
def blkQ (id : Nat) (Q : AExit → St → Prop) : AExit → St → Prop
  | .exit k, st => if k = id then Q .normal st else Q (.exit k) st
  | e, st => Q e st
def loopQ (I : Nat → St → Prop) (n : Nat) (Q : AExit → St → Prop) : AExit → St → Prop
  | .normal, st => ∃ m, m < n ∧ ∃ st', Soft st st' ∧ I m st'
  | e, st => Q e st

/-- In a region that draws its order: operations that change nothing, whatever order they come in. -/
def AFn (P : Program) (G : Nat → AV) (f : FuncId) (args : List AV) (H : Nat → Option AObj) (v : AV) : Prop :=
  ∀ n, ACalls P G f args H n fun r H' _ => r = v ∧ H' = H
def dop (P : Program) (G : Nat → AV) (H : Nat → Option AObj) (fr : Nat → AV) (o : AOp) (v : AV) : Prop :=
  match o with
  | .idx sz x i => EvenOf sz (ev G fr x) ∧ aidx H sz (ev G fr x) (ev G fr i) = some v
  | .sl sz x lo hi => CutOk H sz (ev G fr x) ∧ asl (ev G fr x) (evo G fr lo) (evo G fr hi) = some v
  | .call f args => AFn P G f (evs G fr args) H v
  | .callv x args => match ev G fr x with
    | .fn (.func f) caps => AFn P G f (evs G fr args ++ caps) H v
    | _ => False
  | o => aval G H fr o = some v
/-- A store into an owned object. -/
def SStep (G : Nat → AV) (o : AOp) (fr : Nat → AV) (H H' : Nat → Option AObj) : Prop := match o with
  | .store _ n a x => ∃ i r c ob cs o', ev G fr a = .op i r c ∧ H i = some ob ∧ (ev G fr x).cells? = some cs ∧ cs.length = n ∧ cs.all AV.one = true ∧ astore ob r c cs = some o' ∧ H' = upd H i (some o')
  | _ => False
def adops (P : Program) (G : Nat → AV) : (Nat → Option AObj) → List AOper → (Nat → AV) → ((Nat → AV) → (Nat → Option AObj) → Prop) → Prop
  | H, [], fr, K => K fr H
  | H, o :: os, fr, K => match o.g with
    | none => (∃ v, dop P G H fr o.o v ∧ adops P G H os (put fr o.d v) K) ∨ (o.d = none ∧ ∃ H', SStep G o.o fr H H' ∧ adops P G H' os fr K)
    | some (j, want) => match fr j with
      | .lit (.bool b) => (b = want → ∃ v, dop P G H (upd fr j (.bool want)) o.o v ∧ adops P G H os (put (upd fr j (.bool want)) o.d v) K) ∧ (b = (!want) → adops P G H os (put (upd fr j (.bool (!want))) o.d .und) K)
      | .lit (.tuple _) => adops P G H os (put fr o.d .und) K
      | _ => False

def aw (P : Program) (G : Nat → AV) : ACode → (AExit → St → Prop) → St → Prop
  | .skip, Q, st => Q .normal st
  | .reg ops, Q, st => aops P G ops st (Q .normal)
  | .dreg ops, Q, st => adops P G st.H ops st.fr fun fr H' => ∀ n', st.n ≤ n' → Q .normal ⟨fr, H', n'⟩
  | .seq x y, Q, st => aw P G x (seqQ (fun st' => aw P G y Q st') Q) st
  | .cond c x y, Q, st => match ev G st.fr c with
    | .lit (.bool t) => (t = true → aw P G x Q st) ∧ (t = false → aw P G y Q st)
    | _ => False
  | .blk id b, Q, st => aw P G b (blkQ id Q) st
  | .loop b, Q, st => ∃ (I : Nat → St → Prop) (n : Nat), I n st ∧ ∀ n st, I n st → aw P G b (loopQ I n Q) st
  | .exit id, Q, st => Q (.exit id) st
  | .ret, Q, st => Q .ret st
  | .bad, _, _ => False

/-- What a code's walk ends in, for the real machine. -/
def RQ (G : Nat → AV) (N : Nat) (w0 : World) (g0 : Gh) (Q : AExit → St → Prop) : Exit → Act → World → Prop
  | .normal, a, w => ∃ st g, Q .normal st ∧ Rel G N st g a w ∧ Step w0 g0 w g
  | .exit id, a, w => ∃ st g, Q (.exit id) st ∧ Rel G N st g a w ∧ Step w0 g0 w g
  | .ret, a, w => ∃ st g, Q .ret st ∧ Rel G N st g a w ∧ Step w0 g0 w g
  | _, _, _ => False
theorem RQ.step {w0 w1 : World} {g0 g1 : Gh} {Q Q' : AExit → St → Prop} (hS : Step w0 g0 w1 g1) (hQ : ∀ e st, Q e st → Q' e st) : ∀ (e : Exit) (a : Act) (w : World), RQ G N w1 g1 Q e a w → RQ G N w0 g0 Q' e a w
  | .normal, _, _, ⟨st, g, h1, h2, h3⟩ => ⟨st, g, hQ _ _ h1, h2, hS.trans h3⟩
  | .exit id, _, _, ⟨st, g, h1, h2, h3⟩ => ⟨st, g, hQ _ _ h1, h2, hS.trans h3⟩
  | .ret, _, _, ⟨st, g, h1, h2, h3⟩ => ⟨st, g, hQ _ _ h1, h2, hS.trans h3⟩
end Go.Ab
