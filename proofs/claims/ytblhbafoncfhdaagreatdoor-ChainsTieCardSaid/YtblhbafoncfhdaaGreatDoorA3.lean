/- A part of an abstract logic over the model's runs, proved sound against the model; no condition. -/
import Derived.Test.YtblhbafoncfhdaaGreatDoorA2
set_option linter.unusedVariables false
set_option linter.unusedSimpArgs false
set_option linter.unusedSectionVars false
/-! Regions in the text's order; control; a function's body. -/
namespace Go.Ab
open Go.RowKit
variable {P : Program} {w w' : World} {g g' : Gh} {G : Nat → AV} {N : Nat} {st : St} {a : Act}
def ltD (N : Nat) : Option Nat → Bool
 | some k => decide (k < N)
 | none => true
def absOper (P : Program) (N : Nat) (own : List Nat) (ops : Array Oper) (o : Oper) : Option AOper :=
 if ltD N o.dst then match some ((absOp P own o.dst o.op).getD .bad) with
  | some ao => match o.guard with
   | none => some ⟨o.dst, ao, none, (o.after.toList.filter (Region.binds .any)).map (·.on)⟩
   | some (j, b) => match (ops[j]?).bind (·.dst) with
    | some d => if d < N then some ⟨o.dst, ao, some (d, b), (o.after.toList.filter (Region.binds .any)).map (·.on)⟩ else none
    | none => none
  | none => none
 else none
def absOpers (P : Program) (N : Nat) (own : List Nat) (ops : Array Oper) : List Oper → Option (List AOper)
 | [] => some []
 | o :: os => match absOper P N own ops o, absOpers P N own ops os with
  | some x, some xs => some (x :: xs)
  | _, _ => none
theorem absOper_some {own : List Nat} {ops : Array Oper} {o : Oper} {x : AOper} (h : absOper P N own ops o = some x) :
  x.d = o.dst ∧ (∀ k, o.dst = some k → k < N) ∧ (absOp P own o.dst o.op).getD .bad = x.o ∧ x.af = (o.after.toList.filter (Region.binds .any)).map (·.on) ∧
   ((o.guard = none ∧ x.g = none) ∨ ∃ j b d, o.guard = some (j, b) ∧ (ops[j]?).bind (·.dst) = some d ∧ d < N ∧ x.g = some (d, b)) := by
 unfold absOper at h
 split at h
 ·rename_i hd
  have hd' : ∀ k, o.dst = some k → k < N := fun k hk => by rw [hk] at hd; simpa [ltD] using hd
  split at h
  ·rename_i ao hao
   have hao := Option.some.inj hao
   split at h
   ·rename_i hg; cases h; exact ⟨rfl, hd', hao, rfl, .inl ⟨hg, rfl⟩⟩
   ·rename_i j b hg
    split at h
    ·rename_i d hj
     split at h
     ·rename_i hdN; cases h; exact ⟨rfl, hd', hao, rfl, .inr ⟨j, b, d, hg, hj, hdN, rfl⟩⟩
     ·cases h
    ·cases h
  ·cases h
 ·cases h
theorem wanted_of {ops : Array Oper} {o : Oper} (hR : Rel G N st g a w) {j : Nat} {b c : Bool} {d : Nat} (hg : o.guard = some (j, b)) (hj : (ops[j]?).bind (·.dst) = some d) (hd : d < N) (hc : st.fr d = .lit (.bool c)) : Region.wanted o (yielded ops a.tmps) = (c == b) := by
 have h1 := hR.fr d
 rw [hc] at h1
 have h2 : a.tmps.getD d undef = .bool c := h1
 rw [← hR.sz] at hd
 have h3 : a.tmps[d]? = some (.bool c) := by
  rw [Array.getElem?_eq_getElem hd]
  simpa [Array.getD_eq_getD_getElem?, hd] using h2
 simp only [Region.wanted, hg, yielded, hj, Option.bind_some, h3]
 cases b <;> cases c <;> rfl
theorem wanted_of_tuple {ops : Array Oper} {o : Oper} (hR : Rel G N st g a w) {j : Nat} {b : Bool} {d : Nat} {vs : Array Value} (hg : o.guard = some (j, b)) (hj : (ops[j]?).bind (·.dst) = some d) (hd : d < N) (hc : st.fr d = .lit (.tuple vs)) : Region.wanted o (yielded ops a.tmps) = false := by
 have h1 := hR.fr d
 rw [hc] at h1
 have h2 : a.tmps.getD d undef = .tuple vs := h1
 rw [← hR.sz] at hd
 have h3 : a.tmps[d]? = some (.tuple vs) := by
  rw [Array.getElem?_eq_getElem hd]
  simpa [Array.getD_eq_getD_getElem?, hd] using h2
 simp only [Region.wanted, hg, yielded, hj, Option.bind_some, h3]
 cases b <;> rfl
theorem aop_sound' {own : List Nat} {o : Oper} {next : Act → World → Prop} {Q : Exit → Act → World → Prop} {K : St → Prop} (hR : Rel G N st g a w) (hd : ∀ k, o.dst = some k → k < N) (hn : Next G N w g K next) {ao : AOp} (hab : (absOp P own o.dst o.op).getD .bad = ao) (h : aop P G ao o.dst st K) : o.wp P a w next Q := by
 cases hx : absOp P own o.dst o.op with
 | some y => rw [hx] at hab; cases hab; exact aop_sound hR hd hn hx h
 | none =>
  rw [hx] at hab
  cases hab
  obtain ⟨v, h1, _⟩ := h
  simp [aval] at h1
theorem aops_sound {own : List Nat} {ops : Array Oper} {Q : Exit → Act → World → Prop} : ∀ (l : List Oper) (al : List AOper) (st : St) (g : Gh) (a : Act) (w : World) (K : St → Prop), absOpers P N own ops l = some al → aops P G al st K → Rel G N st g a w →
  (∀ st' g' a' w', K st' → Rel G N st' g' a' w' → Step w g w' g' → Q .normal a' w') → wpList P ops Q l a w
 | [], al, st, g, a, w, K, hal, h, hR, hK => by
  cases hal
  exact hK st g a w h hR (Step.refl _ _)
 | o :: os, al, st, g, a, w, K, hal, h, hR, hK => by
  simp only [absOpers] at hal
  split at hal
  ·rename_i x xs h1 h2
   cases hal
   obtain ⟨e1, e2, e3, _, e4⟩ := absOper_some h1
   refine wpList_step fun K' hK' => ?_
   have rest : ∀ (st : St) (g1 : Gh) (a1 : Act) (w1 : World), aops P G xs st K → Rel G N st g1 a1 w1 → Step w g w1 g1 → K' a1 w1 := fun st1 g1 a1 w1 hh hR1 hS1 =>
    hK' _ _ (aops_sound os xs st1 g1 a1 w1 K h2 hh hR1 fun st' g' a' w' k1 k2 k3 => hK st' g' a' w' k1 k2 (hS1.trans k3))
   simp only [aops] at h
   rcases e4 with ⟨e4, e5⟩ | ⟨j, b, d, e4, e5, e6, e7⟩
   ·rw [e5] at h
    simp only [Region.wanted, e4, if_true]
    rw [e1] at h
    exact aop_sound' hR e2 (fun st' g' a' w' k1 k2 k3 => rest st' g' a' w' k1 k2 k3) e3 h
   ·rw [e7] at h
    simp only at h
    split at h
    ·rename_i c hc
     rw [wanted_of hR e4 e5 e6 hc]
     obtain ⟨h3, h4⟩ := h
     rw [e1] at h3 h4
     by_cases hcb : c = b
     ·subst hcb
      rw [if_pos (by simp)]
      have hR' : Rel G N { st with fr := upd st.fr d (.bool c) } g a w := hR.reset (x := .bool c) (by have := hR.fr d; rw [hc] at this; exact this)
      exact aop_sound' hR' e2 (fun st' g' a' w' k1 k2 k3 => rest st' g' a' w' k1 k2 k3) e3 (h3 rfl)
     ·have hcb' : c = !b := by cases c <;> cases b <;> first | rfl | exact absurd rfl hcb
      rw [if_neg (by cases c <;> cases b <;> first | decide | exact absurd rfl hcb)]
      have hR' : Rel G N { st with fr := upd st.fr d (.bool (!b)) } g a w := hR.reset (x := .bool (!b)) (by have := hR.fr d; rw [hc, hcb'] at this; exact this)
      have hR2 := hR'.put (Step.refl w g) hR.inv e2 (x := .und) (v := undef) rfl
      refine rest _ g _ w (h4 hcb') ?_ (Step.refl _ _)
      rw [hR.H, hR.n] at hR2
      exact hR2
    ·rename_i vs hc
     rw [wanted_of_tuple hR e4 e5 e6 hc]
     rw [if_neg (by decide)]
     rw [e1] at h
     have hR2 := hR.put (Step.refl w g) hR.inv e2 (x := .und) (v := undef) rfl
     refine rest _ g _ w h ?_ (Step.refl _ _)
     rw [hR.H, hR.n] at hR2
     exact hR2
    ·exact h.elim
  ·cases hal
/-! Control. -/
inductive AExit where
 | normal
 | exit (id : Nat)
 | ret
structure Weak (st st' : St) : Prop where
 fr : ∀ s, st'.fr s = st.fr s ∨ st'.fr s = .any
 H : Sub st'.H st.H
 n : st'.n = st.n
theorem Weak.refl (st : St) : Weak st st := ⟨fun _ => .inl rfl, Sub.refl _, rfl⟩
theorem Rel.weak (hR : Rel G N st g a w) {st' : St} (h : Weak st st') : ∃ g', Rel G N st' g' a w ∧ Step w g w g' := by
 have hs : Sub st'.H g.H := by rw [hR.H]; exact h.H
 have hS := step_less w g hs
 refine ⟨g.less st'.H, ⟨rfl, by rw [h.n]; exact hR.n, inv_less hR.inv hs, hR.gl.mono hS, fun s => ?_, hR.sz, hR.df⟩, hS⟩
 rcases h.fr s with h1 | h1
 ·rw [h1]; exact (hR.fr s).mono hS
 ·rw [h1]; trivial
def Soft (st st' : St) : Prop := Weak st st' ∨ ∃ D k, Froz st st' D k
theorem Soft.refl (st : St) : Soft st st := .inl (Weak.refl st)
theorem Rel.soft (hR : Rel G N st g a w) {st' : St} (h : Soft st st') : ∃ g', Rel G N st' g' a w ∧ Step w g w g' := by
 rcases h with h | ⟨D, k, h⟩
 ·exact hR.weak h
 ·exact hR.froz h
def seqQ (next : St → Prop) (Q : AExit → St → Prop) : AExit → St → Prop
 | .normal, st => next st
 | e, st => Q e st
def blkQ (id : Nat) (Q : AExit → St → Prop) : AExit → St → Prop
 | .exit k, st => if k = id then Q .normal st else Q (.exit k) st
 | e, st => Q e st
def loopQ (I : Nat → St → Prop) (n : Nat) (Q : AExit → St → Prop) : AExit → St → Prop
 | .normal, st => ∃ m, m < n ∧ ∃ st', Soft st st' ∧ I m st'
 | e, st => Q e st
def AFn (P : Program) (G : Nat → AV) (f : FuncId) (args : List AV) (H : Nat → Option AObj) (v : AV) : Prop :=
 ∀ n, ACalls P G f args H n fun r H' _ => r = v ∧ H' = H
def dop (P : Program) (G : Nat → AV) (H : Nat → Option AObj) (fr : Nat → AV) (o : AOp) (v : AV) : Prop :=
 match o with
 | .idx sz x i => EvenOf sz (ev G fr x) ∧ aidx H sz (ev G fr x) (ev G fr i) = some v
 | .sl sz x lo hi => CutOk H sz (ev G fr x) ∧ asl (ev G fr x) (evo G fr lo) (evo G fr hi) = some v
 | .call f args => AFn P G f (evs G fr args) H v
 | .callv x args => match ev G fr x with
  | .fn (.func f) caps => AFn P G f (evs G fr args ++ caps) H v
  | _ => False
 | o => aval G H fr o = some v
def SStep (G : Nat → AV) (o : AOp) (fr : Nat → AV) (H H' : Nat → Option AObj) : Prop := match o with
 | .store _ n a x => ∃ i r c ob cs o', ev G fr a = .op i r c ∧ H i = some ob ∧ (ev G fr x).cells? = some cs ∧ cs.length = n ∧ cs.all AV.one = true ∧ astore ob r c cs = some o' ∧ H' = upd H i (some o')
 | .mset kc m k v => ∃ i o, ev G fr m = .om i ∧ H i = some o ∧ o.sz = kc ∧ kcode (ev G fr k) = some kc ∧ H' = upd H i (some { o with rows := mput o.rows (ev G fr k) (ev G fr v) })
 | _ => False
def adops (P : Program) (G : Nat → AV) : (Nat → Option AObj) → List AOper → (Nat → AV) → ((Nat → AV) → (Nat → Option AObj) → Prop) → Prop
 | H, [], fr, K => K fr H
 | H, o :: os, fr, K => match o.g with
  | none => (∃ v, dop P G H fr o.o v ∧ adops P G H os (put fr o.d v) K) ∨ (o.d = none ∧ ∃ H', SStep G o.o fr H H' ∧ adops P G H' os fr K)
  | some (j, want) => match fr j with
   | .lit (.bool b) => (b = want → ∃ v, dop P G H (upd fr j (.bool want)) o.o v ∧ adops P G H os (put (upd fr j (.bool want)) o.d v) K) ∧ (b = (!want) → adops P G H os (put (upd fr j (.bool (!want))) o.d .und) K)
   | .lit (.tuple _) => adops P G H os (put fr o.d .und) K
   | _ => False
def ECall (P : Program) (G : Nat → AV) (o : AOp) (fr : Nat → AV) (H : Nat → Option AObj) (v : AV) (H' : Nat → Option AObj) : Prop := match o with
 | .call f args => ∀ n, ACalls P G f (evs G fr args) H n fun r H1 _ => r = v ∧ H1 = H'
 | _ => False
def edops (P : Program) (G : Nat → AV) (Hs : Nat → Option AObj) : List (List AOper × AOper) → List AOper → (Nat → Option AObj) → (Nat → AV) → ((Nat → AV) → (Nat → Option AObj) → Prop) → Prop
 | [], last, H, fr, K => adops P G Hs last fr fun fr' _ => K fr' H
 | (A, c) :: segs, last, H, fr, K => adops P G Hs A fr fun fr' _ => c.g = none ∧ ∃ v H1, ECall P G c.o fr' H v H1 ∧ Sub Hs H1 ∧ edops P G Hs segs last H1 (put fr' c.d v) K
def asteps (P : Program) (G : Nat → AV) (H : Nat → Option AObj) (cs : List AV) : List AOper → (Nat → AV) → ((Nat → AV) → Prop) → Prop
 | [], fr, K => K fr
 | x :: xs, fr, K => match x.o with
  | .alloc _ _ => asteps P G H cs xs (put fr x.d .any) K
  | .store _ _ _ y => (ev G fr y).cells? = some cs ∧ asteps P G H cs xs fr K
  | .call f args => ∃ v, (∀ H', Sub H H' → AFn P G f (evs G fr args) H' v) ∧ asteps P G H cs xs (put fr x.d v) K
  | o => ∃ v, dop P G H fr o v ∧ asteps P G H cs xs (put fr x.d v) K
def noH : Nat → Option AObj := fun _ => none
def nop (P : Program) (G : Nat → AV) (Hs : Nat → Option AObj) (f : Bool) (x : AOper) (st : St) (K : St → Prop) : Prop :=
 aops P G [x] ⟨st.fr, bif f then Hs else st.H, st.n⟩ fun st' => Sub Hs (bif f then st.H else st'.H) ∧ K ⟨st'.fr, bif f then st.H else st'.H, st'.n⟩
def naops (P : Program) (G : Nat → AV) (Hs : Nat → Option AObj) : List (Bool × AOper) → St → (St → Prop) → Prop
 | [], st, K => K st
 | (f, x) :: l, st, K => nop P G Hs f x st fun st' => naops P G Hs l st' K
def faops (P : Program) (G : Nat → AV) (Hs : Nat → Option AObj) (x : AOper) : List (Nat × Bool × AOper) → St → (St → Prop) → Prop
 | [], st, K => nop P G Hs false x st K
 | (t, f, y) :: l, st, K =>
  if t = 0 then nop P G Hs f y st fun st' => faops P G Hs x l st' K
  else if t = 1 then (nop P G Hs false x st fun st' => naops P G Hs ((f, y) :: l.map (·.2)) st' K) ∧ nop P G Hs f y st fun st' => faops P G Hs x l st' K
  else nop P G Hs false x st fun st' => naops P G Hs ((f, y) :: l.map (·.2)) st' K
def aw (P : Program) (G : Nat → AV) : ACode → (AExit → St → Prop) → St → Prop
 | .skip, Q, st => Q .normal st
 | .reg ops, Q, st => aops P G ops st (Q .normal)
 | .dreg ops, Q, st => adops P G st.H ops st.fr fun fr H' => ∀ n', st.n ≤ n' → Q .normal ⟨fr, H', n'⟩
 | .ereg segs last, Q, st => ∃ Hs, Sub Hs st.H ∧ edops P G Hs segs last st.H st.fr fun fr H' => ∀ n', st.n ≤ n' → Q .normal ⟨fr, H', n'⟩
 | .areg al _ _ d n E, Q, st => ∃ cs, cs.length = n ∧ cs.all AV.one = true ∧ asteps P G st.H cs al st.fr fun fr => ∀ m n', st.n ≤ m → m < n' → Q .normal ⟨upd fr d (.op m 0 0), upd st.H m (some ⟨E, n, [cs]⟩), n'⟩
 | .nreg ops, Q, st => ∃ Hs, Sub Hs st.H ∧ naops P G Hs ops st (Q .normal)
 | .freg x ops, Q, st => ∃ Hs, Sub Hs st.H ∧ faops P G Hs x ops st (Q .normal)
 | .seq x y, Q, st => aw P G x (seqQ (fun st' => aw P G y Q st') Q) st
 | .cond c x y, Q, st => match ev G st.fr c with
  | .lit (.bool t) => (t = true → aw P G x Q st) ∧ (t = false → aw P G y Q st)
  | _ => False
 | .blk id b, Q, st => aw P G b (blkQ id Q) st
 | .loop b, Q, st => ∃ (I : Nat → St → Prop) (n : Nat), (∃ st0, Soft st st0 ∧ I n st0) ∧ ∀ n st, I n st → aw P G b (loopQ I n Q) st
 | .exit id, Q, st => Q (.exit id) st
 | .ret, Q, st => Q .ret st
 | .bad, _, _ => False
def RQ (G : Nat → AV) (N : Nat) (w0 : World) (g0 : Gh) (Q : AExit → St → Prop) : Exit → Act → World → Prop
 | .normal, a, w => ∃ st g, Q .normal st ∧ Rel G N st g a w ∧ Step w0 g0 w g
 | .exit id, a, w => ∃ st g, Q (.exit id) st ∧ Rel G N st g a w ∧ Step w0 g0 w g
 | .ret, a, w => ∃ st g, Q .ret st ∧ Rel G N st g a w ∧ Step w0 g0 w g
 | _, _, _ => False
theorem RQ.step {w0 w1 : World} {g0 g1 : Gh} {Q Q' : AExit → St → Prop} (hS : Step w0 g0 w1 g1) (hQ : ∀ e st, Q e st → Q' e st) : ∀ (e : Exit) (a : Act) (w : World), RQ G N w1 g1 Q e a w → RQ G N w0 g0 Q' e a w
 | .normal, _, _, ⟨st, g, h1, h2, h3⟩ => ⟨st, g, hQ _ _ h1, h2, hS.trans h3⟩
 | .exit id, _, _, ⟨st, g, h1, h2, h3⟩ => ⟨st, g, hQ _ _ h1, h2, hS.trans h3⟩
 | .ret, _, _, ⟨st, g, h1, h2, h3⟩ => ⟨st, g, hQ _ _ h1, h2, hS.trans h3⟩
end Go.Ab
/-! Regions whose order is drawn. -/
namespace Go.Ab
open Go.RowKit
variable {P : Program} {w w' : World} {g g' : Gh} {G : Nat → AV} {N : Nat} {st : St} {a : Act} {H : Nat → Option AObj}
def Opd.slots : Opd → List Nat
 | .t n => [n]
 | _ => []
def slotsL : List Opd → List Nat
 | [] => []
 | x :: xs => x.slots ++ slotsL xs
def slotsO : Option Opd → List Nat
 | none => []
 | some x => x.slots
def slotsP : List (Nat × Nat × Opd) → List Nat
 | [] => []
 | (_, _, x) :: xs => x.slots ++ slotsP xs
def slotsQ : List (Nat × Opd) → List Nat
 | [] => []
 | (_, x) :: xs => x.slots ++ slotsQ xs
def AOp.slots : AOp → List Nat
 | .mov x | .load _ _ x | .fld _ x | .part _ _ _ x | .not x | .neg x | .cvt _ x | .same x | .ext _ x | .len x | .lenS x | .box _ x | .nilc x => x.slots
 | .idx _ x y | .idxA _ _ x y | .idxV _ _ _ x y | .chr x y | .bin _ x y | .eq _ _ x y | .mm _ x y => x.slots ++ y.slots
 | .pick c x y | .mm3 _ c x y => c.slots ++ (x.slots ++ y.slots)
 | .slS x l h | .sl _ x l h => x.slots ++ (slotsO l ++ slotsO h)
 | .build _ ps => slotsP ps
 | .bsl _ _ ps => slotsQ ps
 | .mkf _ xs | .call _ xs => slotsL xs
 | .callv x xs => x.slots ++ slotsL xs
 | .store _ _ a x => a.slots ++ x.slots
 | .look _ _ _ m k => m.slots ++ k.slots
 | .lenM x | .ent x | .cap x | .bts x | .sdat x | .upc _ _ x => x.slots
 | .mset _ m k v => m.slots ++ (k.slots ++ v.slots)
 | _ => []
def AOper.slots (x : AOper) : List Nat := x.o.slots ++ (match x.g with | some (j, _) => [j] | none => [])
section
variable {fr fr' : Nat → AV}
theorem ev_congr {x : Opd} (h : ∀ n ∈ x.slots, fr n = fr' n) : ev G fr x = ev G fr' x := by
 cases x with
 | t n => exact h n (by simp [Opd.slots])
 | _ => rfl
theorem evs_congr : ∀ {xs : List Opd}, (∀ n ∈ slotsL xs, fr n = fr' n) → evs G fr xs = evs G fr' xs
 | [], _ => rfl
 | x :: xs, h => by simp only [evs]; rw [ev_congr fun n hn => h n (by simp [slotsL, hn]), evs_congr fun n hn => h n (by simp [slotsL, hn])]
theorem evo_congr {x : Option Opd} (h : ∀ n ∈ slotsO x, fr n = fr' n) : evo G fr x = evo G fr' x := by
 cases x with
 | none => rfl
 | some x => simp only [evo]; rw [ev_congr h]
theorem evp_congr : ∀ {xs : List (Nat × Nat × Opd)}, (∀ n ∈ slotsP xs, fr n = fr' n) → evp G fr xs = evp G fr' xs
 | [], _ => rfl
 | (_, _, x) :: xs, h => by simp only [evp]; rw [ev_congr fun n hn => h n (by simp [slotsP, hn]), evp_congr fun n hn => h n (by simp [slotsP, hn])]
theorem evq_congr : ∀ {xs : List (Nat × Opd)}, (∀ n ∈ slotsQ xs, fr n = fr' n) → evq G fr xs = evq G fr' xs
 | [], _ => rfl
 | (_, x) :: xs, h => by simp only [evq]; rw [ev_congr fun n hn => h n (by simp [slotsQ, hn]), evq_congr fun n hn => h n (by simp [slotsQ, hn])]
theorem dop_congr {o : AOp} {v : AV} (h : ∀ n ∈ o.slots, fr n = fr' n) (hd : dop P G H fr o v) : dop P G H fr' o v := by
 cases o with
 | mov x | load _ _ x | fld _ x | part _ _ _ x | not x | neg x | cvt _ x | same x | ext _ x | len x | lenS x | box _ x | nilc x | lenM x | ent x | cap x | bts x | sdat x | upc _ _ x =>
  simp only [dop, aval] at hd ⊢; rwa [← ev_congr h]
 | look _ _ _ x y =>
  simp only [dop, aval] at hd ⊢
  rwa [← ev_congr (x := x) fun n hn => h n (by simp [AOp.slots, hn]), ← ev_congr (x := y) fun n hn => h n (by simp [AOp.slots, hn])]
 | idx _ x y | idxA _ _ x y | idxV _ _ _ x y | chr x y | bin _ x y | eq _ _ x y | mm _ x y =>
  simp only [dop, aval] at hd ⊢
  rwa [← ev_congr (x := x) fun n hn => h n (by simp [AOp.slots, hn]), ← ev_congr (x := y) fun n hn => h n (by simp [AOp.slots, hn])]
 | pick c x y | mm3 _ c x y =>
  simp only [dop, aval] at hd ⊢
  rwa [← ev_congr (x := c) fun n hn => h n (by simp [AOp.slots, hn]), ← ev_congr (x := x) fun n hn => h n (by simp [AOp.slots, hn]), ← ev_congr (x := y) fun n hn => h n (by simp [AOp.slots, hn])]
 | slS x l u | sl _ x l u =>
  simp only [dop, aval] at hd ⊢
  rwa [← ev_congr (x := x) fun n hn => h n (by simp [AOp.slots, hn]), ← evo_congr (x := l) fun n hn => h n (by simp [AOp.slots, hn]), ← evo_congr (x := u) fun n hn => h n (by simp [AOp.slots, hn])]
 | build _ ps => simp only [dop, aval] at hd ⊢; rwa [← evp_congr h]
 | bsl _ _ ps => simp only [dop, aval] at hd ⊢; rwa [← evq_congr h]
 | mkf _ xs => simp only [dop, aval] at hd ⊢; rwa [← evs_congr h]
 | call _ xs => simp only [dop] at hd ⊢; rwa [← evs_congr h]
 | callv x xs =>
  simp only [dop] at hd ⊢
  rwa [← ev_congr (x := x) fun n hn => h n (by simp [AOp.slots, hn]), ← evs_congr (xs := xs) fun n hn => h n (by simp [AOp.slots, hn])]
 | _ => simp [dop, aval] at hd
end
theorem dop_aop {o : AOp} {d : Option Nat} {v : AV} (h : dop P G st.H st.fr o v) {K : St → Prop} (hK : ∀ n', st.n ≤ n' → K ⟨put st.fr d v, st.H, n'⟩) : aop P G o d st fun st' => ∃ n', st' = ⟨put st.fr d v, st.H, n'⟩ := by
 cases o with
 | idx sz x y => exact ⟨h.1, v, h.2, st.n, rfl⟩
 | sl sz x l u => exact ⟨h.1, v, h.2, st.n, rfl⟩
 | call f xs =>
  simp only [aop]
  exact ACalls.mono (h st.n) (fun (r : AV) (H' : Nat → Option AObj) (n' : Nat) (hh : r = v ∧ H' = st.H) => ⟨n', by rw [hh.1, hh.2]⟩)
 | callv x xs =>
  simp only [dop] at h
  simp only [aop]
  split at h
  ·rename_i hc
   rw [hc]
   exact ACalls.mono (h st.n) (fun (r : AV) (H' : Nat → Option AObj) (n' : Nat) (hh : r = v ∧ H' = st.H) => ⟨n', by rw [hh.1, hh.2]⟩)
  ·exact h.elim
 | alloc | boxo | bslo | store | app | make | clear | copy | appz | mkm | mset | ment | mest | mdel | mclr | rng | nxt | apps | ustr => simp [dop, aval] at h
 | _ => exact ⟨v, h, st.n, rfl⟩
def isStore : AOp → Bool
 | .store _ _ _ _ | .mset _ _ _ _ => true
 | _ => false
def isReader : AOp → Bool
 | .load _ _ _ | .call _ _ | .callv _ _ | .look _ _ _ _ _ | .lenM _ | .ent _ | .bts _ | .sdat _ | .upc _ _ _ => true
 | _ => false
theorem SStep.congr {o : AOp} {fr fr' : Nat → AV} {H H' : Nat → Option AObj} (h : ∀ n ∈ o.slots, fr n = fr' n) (hd : SStep G o fr H H') : SStep G o fr' H H' := by
 cases o with
 | store ag n a x =>
  simp only [SStep] at hd ⊢
  rwa [← ev_congr (x := a) fun n hn => h n (by simp [AOp.slots, hn]), ← ev_congr (x := x) fun n hn => h n (by simp [AOp.slots, hn])]
 | mset kc m k v =>
  simp only [SStep] at hd ⊢
  rwa [← ev_congr (x := m) fun n hn => h n (by simp [AOp.slots, hn]), ← ev_congr (x := k) fun n hn => h n (by simp [AOp.slots, hn]), ← ev_congr (x := v) fun n hn => h n (by simp [AOp.slots, hn])]
 | _ => exact hd.elim
theorem SStep.aop {o : AOp} {H' : Nat → Option AObj} (h : SStep G o st.fr st.H H') : aop P G o none st fun st' => st' = ⟨st.fr, H', st.n⟩ := by
 cases o with
 | store ag n a x =>
  obtain ⟨i, r, c, ob, cs, o', h1, h2, h3, h4, h5, h6, h7⟩ := h
  simp only [Ab.aop, h1]
  exact ⟨ob, cs, o', h2, h3, h4, h5, h6, by rw [h7]; rfl⟩
 | mset kc m k v =>
  obtain ⟨i, o, h1, h2, h3, h4, h5⟩ := h
  simp only [Ab.aop, h1]
  exact ⟨o, h2, h3, h4, by rw [h5]; rfl⟩
 | _ => exact h.elim
theorem dop_store {fr : Nat → AV} {o : AOp} {v : AV} (h : dop P G H fr o v) : isStore o = false := by
 cases o with
 | store | mset => simp [dop, aval] at h
 | _ => rfl
def Shape (H H' : Nat → Option AObj) : Prop := ∀ i, (H i).map (·.sz) = (H' i).map (·.sz)
theorem SStep.shape {o : AOp} {fr : Nat → AV} {H H' : Nat → Option AObj} (h : SStep G o fr H H') : Shape H H' := by
 cases o with
 | store ag n a x =>
  obtain ⟨i, r, c, ob, cs, o', h1, h2, h3, h4, h5, h6, rfl⟩ := h
  intro j
  by_cases hj : j = i
  ·subst hj
   rw [upd_same, h2]
   unfold astore at h6
   split at h6
   ·split at h6
    ·cases h6; rfl
    ·cases h6
   ·cases h6
  ·rw [upd_ne _ _ _ hj]
 | mset kc m k v =>
  obtain ⟨i, o, h1, h2, h3, h4, rfl⟩ := h
  intro j
  by_cases hj : j = i
  ·subst hj; rw [upd_same, h2]; rfl
  ·rw [upd_ne _ _ _ hj]
 | _ => exact h.elim
theorem aidx_shape {H H' : Nat → Option AObj} (hs : Shape H H') {sz : Nat} {x i v : AV} (h : aidx H sz x i = some v) : aidx H' sz x i = some v := by
 cases x with
 | os j off len =>
  cases i with
  | lit y =>
   cases y with
   | int k n =>
    simp only [aidx] at h ⊢
    split at h
    ·rename_i hb
     rw [if_pos hb]
     have := hs j
     cases hj : H j with
     | none => rw [hj] at h; cases h
     | some o =>
      rw [hj] at h this
      cases hj' : H' j with
      | none => rw [hj'] at this; cases this
      | some o' =>
       rw [hj'] at this
       simp only [Option.map_some, Option.some.injEq] at this
       simp only at h ⊢
       rw [← this]; exact h
    ·cases h
   | _ => simp [aidx] at h
  | _ => simp [aidx] at h
 | ls nz rows => cases i with
  | lit y => cases y <;> first | exact h | simp [aidx] at h
  | _ => simp [aidx] at h
 | _ => simp [aidx] at h
theorem cutOk_shape {H H' : Nat → Option AObj} (hs : Shape H H') {sz : Nat} {x : AV} (h : CutOk H sz x) : CutOk H' sz x := by
 cases x with
 | os j off len =>
  obtain ⟨o, h1, h2⟩ := h
  have := hs j
  rw [h1] at this
  cases hj' : H' j with
  | none => rw [hj'] at this; cases this
  | some o' =>
   rw [hj'] at this
   simp only [Option.map_some, Option.some.injEq] at this
   exact ⟨o', hj', by rw [← this]; exact h2⟩
 | _ => exact h
theorem dop_shape {H H' : Nat → Option AObj} (hs : Shape H H') {fr : Nat → AV} {o : AOp} {v : AV} (hr : isReader o = false) (h : dop P G H fr o v) : dop P G H' fr o v := by
 cases o with
 | idx sz x i => exact ⟨h.1, aidx_shape hs h.2⟩
 | sl sz x lo hi => exact ⟨cutOk_shape hs h.1, h.2⟩
 | load | call | callv | look | lenM | ent | bts | sdat | upc => simp [isReader] at hr
 | _ => exact h
/-! Which waits for which. -/
inductive Reach (al : List AOper) : Nat → Nat → Prop
 | one {i j : Nat} {x : AOper} : al[i]? = some x → j ∈ x.af → Reach al i j
 | more {i e j : Nat} {x : AOper} : al[i]? = some x → e ∈ x.af → Reach al e j → Reach al i j
def befs : List Nat → List AOper → List Nat
 | acc, [] => acc
 | acc, x :: xs => befs (acc ++ [x.af.foldl (fun s e => s ||| 2 ^ e ||| acc.getD e 0) 0]) xs
theorem foldl_bits (acc : List Nat) : ∀ (af : List Nat) (s j : Nat), (af.foldl (fun s e => s ||| 2 ^ e ||| acc.getD e 0) s).testBit j = true → s.testBit j = true ∨ ∃ e ∈ af, e = j ∨ (acc.getD e 0).testBit j = true
 | [], s, j, h => .inl h
 | e :: af, s, j, h => by
  rcases foldl_bits acc af _ j h with h1 | ⟨e', h1, h2⟩
  ·rw [Nat.testBit_or, Nat.testBit_or, Bool.or_eq_true, Bool.or_eq_true] at h1
   rcases h1 with (h1 | h1) | h1
   ·exact .inl h1
   ·rw [Nat.testBit_two_pow] at h1
    exact .inr ⟨e, by simp, .inl (by simpa using h1)⟩
   ·exact .inr ⟨e, by simp, .inr h1⟩
  ·exact .inr ⟨e', by simp [h1], h2⟩
theorem befs_sound (al : List AOper) : ∀ (xs : List AOper) (acc : List Nat), (∀ k, xs[k]? = al[acc.length + k]?) → (∀ i j, (acc.getD i 0).testBit j = true → Reach al i j) → ∀ i j, ((befs acc xs).getD i 0).testBit j = true → Reach al i j
 | [], acc, _, h, i, j, hb => h i j hb
 | x :: xs, acc, hx, h, i, j, hb => by
  refine befs_sound al xs _ (fun k => ?_) (fun i j hij => ?_) i j hb
  ·rw [List.length_append, List.length_singleton, Nat.add_assoc, Nat.add_comm 1 k]
   simpa using hx (k + 1)
  ·have h0 : al[acc.length]? = some x := by simpa using (hx 0).symm
   rcases Nat.lt_trichotomy i acc.length with h1 | h1 | h1
   ·rw [List.getD_eq_getElem?_getD, List.getElem?_append_left h1, ← List.getD_eq_getElem?_getD] at hij
    exact h i j hij
   ·subst h1
    rw [List.getD_eq_getElem?_getD, List.getElem?_append_right (Nat.le_refl _)] at hij
    simp only [Nat.sub_self, List.getElem?_cons_zero, Option.getD_some] at hij
    rcases foldl_bits acc x.af 0 j hij with h2 | ⟨e, h2, h3⟩
    ·simp at h2
    ·rcases h3 with rfl | h3
     ·exact .one h0 h2
     ·exact .more h0 h2 (h e j h3)
   ·rw [List.getD_eq_getElem?_getD, List.getElem?_eq_none (by simp; omega)] at hij
    simp at hij
def nodupD : List (Option Nat) → Bool
 | [] => true
 | none :: ds => nodupD ds
 | some d :: ds => !ds.contains (some d) && nodupD ds
def orderOk (bs : List Nat) (ds : List (Option Nat)) : Nat → List AOper → Bool
 | _, [] => true
 | i, x :: xs => x.af.all (fun e => decide (e < i)) && x.slots.all (fun t => ds.zipIdx.all fun (d, j) => d != some t || j == i || (if j < i then (bs.getD i 0).testBit j else (bs.getD j 0).testBit i)) && orderOk bs ds (i + 1) xs
def storeOk (al : List AOper) : Bool := al.zipIdx.all fun (x, i) => !isStore x.o || al.zipIdx.all fun (y, j) => if j < i then (!(isReader y.o || isStore y.o) || x.af.contains j) else !isReader y.o
theorem storeOk_spec {al : List AOper} (h : storeOk al = true) {i j : Nat} {x y : AOper} (hx : al[i]? = some x) (hs : isStore x.o = true) (hy : al[j]? = some y) : (j < i → (isReader y.o = true ∨ isStore y.o = true) → j ∈ x.af) ∧ (i ≤ j → isReader y.o = false) := by
 have h1 := List.all_eq_true.1 h (x, i) (by rw [List.mem_zipIdx_iff_getElem?]; exact hx)
 simp only [hs, Bool.not_true, Bool.false_or] at h1
 have h2 := List.all_eq_true.1 h1 (y, j) (by rw [List.mem_zipIdx_iff_getElem?]; exact hy)
 simp only at h2
 constructor
 ·intro hj hr
  rw [if_pos hj] at h2
  rcases hr with hr | hr <;> simpa [hr] using h2
 ·intro hj
  rw [if_neg (by omega)] at h2
  simpa using h2
def dok (al : List AOper) : Bool := (nodupD (al.map (·.d)) && orderOk (befs [] al) (al.map (·.d)) 0 al) && storeOk al
theorem nodupD_spec : ∀ {ds : List (Option Nat)}, nodupD ds = true → ∀ (i j d : Nat), ds[i]? = some (some d) → ds[j]? = some (some d) → i = j
 | [], _, i, j, d, h, _ => by simp at h
 | none :: ds, h, i, j, d, hi, hj => by
  cases i with
  | zero => simp at hi
  | succ i => cases j with
   | zero => simp at hj
   | succ j => rw [nodupD_spec (ds := ds) h i j d (by simpa using hi) (by simpa using hj)]
 | some e :: ds, h, i, j, d, hi, hj => by
  simp only [nodupD, Bool.and_eq_true, Bool.not_eq_true', List.contains_iff_mem, ← Bool.not_eq_true] at h
  cases i with
  | zero => cases j with
   | zero => rfl
   | succ j =>
    simp at hi hj; subst hi
    exact absurd (List.mem_of_getElem? hj) h.1
  | succ i => cases j with
   | zero =>
    simp at hi hj; subst hj
    exact absurd (List.mem_of_getElem? hi) h.1
   | succ j => rw [nodupD_spec h.2 i j d (by simpa using hi) (by simpa using hj)]
theorem orderOk_spec (bs : List Nat) (ds : List (Option Nat)) : ∀ (xs : List AOper) (k : Nat), orderOk bs ds k xs = true → ∀ i x, xs[i]? = some x → (∀ e ∈ x.af, e < k + i) ∧ ∀ t ∈ x.slots, ∀ j, ds[j]? = some (some t) → j = k + i ∨ (j < k + i ∧ (bs.getD (k + i) 0).testBit j = true) ∨ (k + i < j ∧ (bs.getD j 0).testBit (k + i) = true)
 | [], k, _, i, x, hx => by simp at hx
 | y :: xs, k, h, i, x, hx => by
  simp only [orderOk, Bool.and_eq_true] at h
  obtain ⟨⟨h1, h2⟩, h3⟩ := h
  cases i with
  | zero =>
   simp at hx; subst hx
   refine ⟨fun e he => by simpa using List.all_eq_true.1 h1 e he, fun t ht j hj => ?_⟩
   have h4 := List.all_eq_true.1 (List.all_eq_true.1 h2 t ht) (some t, j) (by
    rw [List.mem_zipIdx_iff_getElem?]; simpa using hj)
   simp only [bne_self_eq_false, Bool.false_or, Bool.or_eq_true, beq_iff_eq] at h4
   rcases h4 with h4 | h4
   ·exact .inl (by simpa using h4)
   ·split at h4
    ·rename_i h5; exact .inr (.inl ⟨by simpa using h5, by simpa using h4⟩)
    ·rename_i h5
     rcases Nat.lt_or_ge k j with h6 | h6
     ·exact .inr (.inr ⟨by simpa using h6, by simpa using h4⟩)
     ·exact .inl (by omega)
  | succ i =>
   have := orderOk_spec bs ds xs (k + 1) h3 i x (by simpa using hx)
   rwa [show k + 1 + i = k + (i + 1) from by omega] at this
end Go.Ab
/-! A drawn region comes to what the text's order comes to. -/
namespace Go.Ab
open Go.RowKit
variable {P : Program} {w w' : World} {g g' : Gh} {G : Nat → AV} {N : Nat} {st : St} {a : Act} {H : Nat → Option AObj}
def DStep (P : Program) (G : Nat → AV) (H : Nat → Option AObj) (x : AOper) (fr fr' : Nat → AV) : Prop :=
 ((x.g = none ∨ ∃ j b, x.g = some (j, b) ∧ fr j = .lit (.bool b)) ∧ ∃ v, dop P G H fr x.o v ∧ fr' = put fr x.d v) ∨
 (∃ j b, x.g = some (j, b) ∧ (fr j = .lit (.bool (!b)) ∨ ∃ vs, fr j = .lit (.tuple vs)) ∧ fr' = put fr x.d .und)
theorem upd_self' {fr : Nat → AV} {j : Nat} {v : AV} (h : fr j = v) : upd fr j v = fr := by
 funext i
 by_cases hi : i = j
 ·subst hi; rw [upd_same, h]
 ·rw [upd_ne _ _ _ hi]
def TStep (P : Program) (G : Nat → AV) (x : AOper) (fr : Nat → AV) (H : Nat → Option AObj) (fr' : Nat → AV) (H' : Nat → Option AObj) : Prop :=
 (H' = H ∧ DStep P G H x fr fr') ∨ (x.g = none ∧ x.d = none ∧ fr' = fr ∧ SStep G x.o fr H H')
theorem adops_trace : ∀ (al : List AOper) (H : Nat → Option AObj) (fr : Nat → AV) (K : (Nat → AV) → (Nat → Option AObj) → Prop), adops P G H al fr K → ∃ (F : Nat → Nat → AV) (HH : Nat → Nat → Option AObj), F 0 = fr ∧ HH 0 = H ∧ K (F al.length) (HH al.length) ∧ ∀ (i : Nat) (x : AOper), al[i]? = some x → TStep P G x (F i) (HH i) (F (i + 1)) (HH (i + 1))
 | [], H, fr, K, h => ⟨fun _ => fr, fun _ => H, rfl, rfl, h, fun i x hx => by simp at hx⟩
 | y :: al, H, fr, K, h => by
  have key : ∃ fr1 H1, TStep P G y fr H fr1 H1 ∧ adops P G H1 al fr1 K := by
   simp only [adops] at h
   split at h
   ·rename_i hg
    rcases h with ⟨v, h1, h2⟩ | ⟨h1, H', h2, h3⟩
    ·exact ⟨_, H, .inl ⟨rfl, .inl ⟨.inl hg, v, h1, rfl⟩⟩, h2⟩
    ·exact ⟨fr, H', .inr ⟨hg, h1, rfl, h2⟩, h3⟩
   ·rename_i j want hg
    split at h
    ·rename_i b hb
     obtain ⟨h1, h2⟩ := h
     by_cases hbw : b = want
     ·subst hbw
      obtain ⟨v, h3, h4⟩ := h1 rfl
      rw [upd_self' hb] at h3 h4
      exact ⟨_, H, .inl ⟨rfl, .inl ⟨.inr ⟨j, b, hg, hb⟩, v, h3, rfl⟩⟩, h4⟩
     ·have hb' : b = !want := by cases b <;> cases want <;> first | rfl | exact absurd rfl hbw
      subst hb'
      have h4 := h2 rfl
      rw [upd_self' hb] at h4
      exact ⟨_, H, .inl ⟨rfl, .inr ⟨j, want, hg, .inl hb, rfl⟩⟩, h4⟩
    ·rename_i vs hb
     exact ⟨_, H, .inl ⟨rfl, .inr ⟨j, want, hg, .inr ⟨vs, hb⟩, rfl⟩⟩, h⟩
    ·exact h.elim
  obtain ⟨fr1, H1, h1, h2⟩ := key
  obtain ⟨F, HH, h3, h3', h4, h5⟩ := adops_trace al H1 fr1 K h2
  refine ⟨fun k => match k with | 0 => fr | k + 1 => F k, fun k => match k with | 0 => H | k + 1 => HH k, rfl, rfl, h4, fun i x hx => ?_⟩
  cases i with
  | zero => simp at hx; subst hx; show TStep P G y fr H (F 0) (HH 0); rw [h3, h3']; exact h1
  | succ i => exact h5 i x (by simpa using hx)
theorem DStep.other {x : AOper} {fr fr' : Nat → AV} (h : DStep P G H x fr fr') {s : Nat} (hs : x.d ≠ some s) : fr' s = fr s := by
 have : ∀ v, put fr x.d v s = fr s := fun v => by
  cases hd : x.d with
  | none => rfl
  | some d => exact upd_ne _ _ _ (fun e => hs (by rw [hd, e]))
 rcases h with ⟨_, v, _, rfl⟩ | ⟨_, _, _, _, rfl⟩ <;> exact this _
theorem TStep.other {x : AOper} {fr fr' : Nat → AV} {H H' : Nat → Option AObj} (h : TStep P G x fr H fr' H') {s : Nat} (hs : x.d ≠ some s) : fr' s = fr s := by
 rcases h with ⟨_, h⟩ | ⟨_, _, h, _⟩
 ·exact h.other hs
 ·rw [h]
theorem TStep.keep {x : AOper} {fr fr' : Nat → AV} {H H' : Nat → Option AObj} (h : TStep P G x fr H fr' H') (hs : isStore x.o = false) : H' = H := by
 rcases h with ⟨h, _⟩ | ⟨_, _, _, h⟩
 ·exact h
 ·cases hx : x.o with
  | store | mset => rw [hx] at hs; cases hs
  | _ => rw [hx] at h; exact h.elim
theorem TStep.shape {x : AOper} {fr fr' : Nat → AV} {H H' : Nat → Option AObj} (h : TStep P G x fr H fr' H') : Shape H H' := by
 rcases h with ⟨rfl, _⟩ | ⟨_, _, _, h⟩
 ·exact fun _ => rfl
 ·exact h.shape
theorem cnt_less : ∀ (n i : Nat), i < n → ∀ (p : Nat → Bool), p i = true → (List.range n).countP (fun j => p j && !(j == i)) + 1 = (List.range n).countP p
 | 0, i, h, _, _ => by omega
 | n + 1, i, h, p, hp => by
  rw [List.range_succ, List.countP_append, List.countP_append]
  rcases Nat.lt_or_ge i n with h1 | h1
  ·have := cnt_less n i h1 p hp
   have hne : (n == i) = false := by simp; omega
   simp only [List.countP_singleton, hne, Bool.not_false, Bool.and_true]
   omega
  ·have hi : i = n := by omega
   subst hi
   have : (List.range i).countP (fun j => p j && !(j == i)) = (List.range i).countP p := by
    refine List.countP_congr fun j hj => ?_
    have hne : (j == i) = false := by have := List.mem_range.1 hj; simp; omega
    simp [hne]
   rw [this]
   simp [List.countP_singleton, hp]
section
variable {own : List Nat} {ops : Array Oper} {al : List AOper} {F : Nat → Nat → AV} {HH : Nat → Nat → Option AObj} {Q : Exit → Act → World → Prop} {w0 : World} {g0 : Gh}
theorem absOpers_get : ∀ {l : List Oper} {al : List AOper}, absOpers P N own ops l = some al → al.length = l.length ∧ ∀ (i : Nat) (o : Oper), l[i]? = some o → ∃ x, al[i]? = some x ∧ absOper P N own ops o = some x
 | [], al, h => by cases h; exact ⟨rfl, fun i o hi => by simp at hi⟩
 | o :: l, al, h => by
  simp only [absOpers] at h
  split at h
  ·rename_i x xs h1 h2
   cases h
   obtain ⟨h3, h4⟩ := absOpers_get h2
   refine ⟨by simp [h3], fun i o' hi => ?_⟩
   cases i with
   | zero => simp at hi; subst hi; exact ⟨x, by simp, h1⟩
   | succ i => simpa using h4 i o' (by simpa using hi)
  ·cases h
theorem F_keep (hoth : ∀ (i : Nat) (x : AOper), al[i]? = some x → ∀ s, x.d ≠ some s → F (i + 1) s = F i s) {s lo : Nat} : ∀ (k : Nat), lo + k ≤ al.length → (∀ (i : Nat) (x : AOper), lo ≤ i → i < lo + k → al[i]? = some x → x.d ≠ some s) → F (lo + k) s = F lo s
 | 0, _, _ => rfl
 | k + 1, hk, h => by
  have hlt : lo + k < al.length := by omega
  rw [← F_keep hoth k (by omega) fun i x h1 h2 => h i x h1 (by omega)]
  exact hoth (lo + k) _ (List.getElem?_eq_getElem hlt) s (h (lo + k) _ (by omega) (by omega) (List.getElem?_eq_getElem hlt))
open Classical in
noncomputable def frL (al : List AOper) (F : Nat → Nat → AV) (listed : Array Bool) : Nat → AV := fun s =>
 if ∃ (i : Nat) (x : AOper), al[i]? = some x ∧ x.d = some s ∧ listed.getD i false = true then F al.length s else F 0 s
theorem getD_tf {listed : Array Bool} {i : Nat} (h : listed.getD i true = false) : listed.getD i false = false ∧ i < listed.size := by
 rcases Nat.lt_or_ge i listed.size with h' | h'
 ·refine ⟨?_, h'⟩
  simpa [Array.getD_eq_getD_getElem?, h'] using h
 ·simp [Array.getD_eq_getD_getElem?, Array.getElem?_eq_none h'] at h
theorem getD_set {listed : Array Bool} {i j : Nat} (hi : i < listed.size) : (listed.setIfInBounds i true).getD j false = if j = i then true else listed.getD j false := by
 by_cases hj : j = i
 ·subst hj; simp [Array.getD_eq_getD_getElem?, hi]
 ·rw [if_neg hj]
  simp [Array.getD_eq_getD_getElem?, Array.getElem?_setIfInBounds_ne (Ne.symm hj)]
def Closed (al : List AOper) (listed : Array Bool) : Prop := ∀ (i : Nat) (x : AOper), al[i]? = some x → listed.getD i false = true → ∀ e ∈ x.af, listed.getD e false = true
theorem Closed.reach {listed : Array Bool} (hc : Closed al listed) {i j : Nat} (h : Reach al i j) (hi : listed.getD i false = true) : listed.getD j false = true := by
 induction h with
 | one h1 h2 => exact hc _ _ h1 hi _ h2
 | more h1 h2 _ ih => exact ih (hc _ _ h1 hi _ h2)
theorem Reach.first {listed : Array Bool} (hc : Closed al listed) {i j : Nat} {x : AOper} (hx : al[i]? = some x) (h : Reach al i j) (ha : ∀ e ∈ x.af, listed.getD e false = true) : listed.getD j false = true := by
 cases h with
 | one h1 h2 => rw [hx] at h1; cases h1; exact ha _ h2
 | more h1 h2 h3 => rw [hx] at h1; cases h1; exact hc.reach h3 (ha _ h2)
def stAt (al : List AOper) (i : Nat) : Bool := match al[i]? with
 | some x => isStore x.o
 | none => false
def sIdx (al : List AOper) (listed : Array Bool) : Nat → Nat
 | 0 => 0
 | n + 1 => if stAt al n && listed.getD n false then n + 1 else sIdx al listed n
def hL (al : List AOper) (HH : Nat → Nat → Option AObj) (listed : Array Bool) : Nat → Option AObj := HH (sIdx al listed al.length)
theorem sIdx_same {listed listed' : Array Bool} : ∀ (n : Nat), (∀ j, j < n → stAt al j = true → listed'.getD j false = listed.getD j false) → sIdx al listed' n = sIdx al listed n
 | 0, _ => rfl
 | n + 1, h => by
  simp only [sIdx]
  rw [sIdx_same n fun j hj => h j (by omega)]
  cases hs : stAt al n with
  | false => rfl
  | true => rw [h n (by omega) hs]
theorem hL_at (htr : ∀ (i : Nat) (x : AOper), al[i]? = some x → TStep P G x (F i) (HH i) (F (i + 1)) (HH (i + 1))) {listed : Array Bool} {i : Nat} (hi : i ≤ al.length) (h : ∀ j, j < al.length → stAt al j = true → (listed.getD j false = true ↔ j < i)) : hL al HH listed = HH i := by
 have key : ∀ n, n ≤ al.length → HH (sIdx al listed n) = HH (min n i) := by
  intro n
  induction n with
  | zero => intro _; simp [sIdx]
  | succ n ih =>
   intro hn
   have ihn := ih (by omega)
   simp only [sIdx]
   have hx := List.getElem?_eq_getElem (show n < al.length by omega)
   by_cases hni : n < i
   ·rw [show min (n + 1) i = n + 1 from by omega]
    rw [show min n i = n from by omega] at ihn
    cases hs : stAt al n with
    | true =>
     rw [(h n (by omega) hs).2 hni]; rfl
    | false =>
     have hk := (htr n _ hx).keep (by simpa [stAt, hx] using hs)
     simp only [Bool.false_and, Bool.false_eq_true, if_false]
     rw [ihn, hk]
   ·rw [show min (n + 1) i = i from by omega]
    rw [show min n i = i from by omega] at ihn
    cases hs : stAt al n with
    | true =>
     have : listed.getD n false = false := by
      cases hl : listed.getD n false with
      | false => rfl
      | true => exact absurd ((h n (by omega) hs).1 hl) hni
     simp only [this, Bool.and_false, Bool.false_eq_true, if_false]
     exact ihn
    | false =>
     simp only [Bool.false_and, Bool.false_eq_true, if_false]
     exact ihn
 have := key al.length (Nat.le_refl _)
 rw [show min al.length i = i from by omega] at this
 exact this
theorem HH_shape (htr : ∀ (i : Nat) (x : AOper), al[i]? = some x → TStep P G x (F i) (HH i) (F (i + 1)) (HH (i + 1))) : ∀ (k : Nat), k ≤ al.length → Shape (HH 0) (HH k)
 | 0, _ => fun _ => rfl
 | k + 1, hk => fun i => (HH_shape htr k (by omega) i).trans ((htr k _ (List.getElem?_eq_getElem (by omega))).shape i)
theorem sIdx_le {listed : Array Bool} : ∀ (n : Nat), sIdx al listed n ≤ n
 | 0 => Nat.le_refl _
 | n + 1 => by
  simp only [sIdx]
  split
  ·exact Nat.le_refl _
  ·exact Nat.le_trans (sIdx_le n) (Nat.le_succ _)
variable (hal : absOpers P N own ops ops.toList = some al) (hok : dok al = true) (hoth : ∀ (i : Nat) (x : AOper), al[i]? = some x → ∀ s, x.d ≠ some s → F (i + 1) s = F i s)
include hal hok hoth
theorem slot_now {listed : Array Bool} (hc : Closed al listed) {i : Nat} {x : AOper} (hx : al[i]? = some x) (hi : listed.getD i false = false) (ha : ∀ e ∈ x.af, listed.getD e false = true) : ∀ t ∈ x.slots, frL al F listed t = F i t := by
 intro t ht
 simp only [dok, Bool.and_eq_true] at hok
 obtain ⟨⟨hnd, hord⟩, _⟩ := hok
 have hilt : i < al.length := (List.getElem?_eq_some_iff.1 hx).1
 have huniq : ∀ (j : Nat) (y : AOper) (j' : Nat) (y' : AOper), al[j]? = some y → y.d = some t → al[j']? = some y' → y'.d = some t → j = j' := fun j y j' y' h1 h2 h3 h4 =>
  nodupD_spec hnd j j' t (by rw [List.getElem?_map, h1]; simp [h2]) (by rw [List.getElem?_map, h3]; simp [h4])
 obtain ⟨_, hspec⟩ := orderOk_spec _ _ al 0 hord i x hx
 have hreach : ∀ i j, ((befs [] al).getD i 0).testBit j = true → Reach al i j := befs_sound al al [] (fun k => by simp) (fun i j h => by simp at h)
 by_cases hw : ∃ (j : Nat) (y : AOper), al[j]? = some y ∧ y.d = some t
 ·obtain ⟨j, y, hj, hyd⟩ := hw
  have hjlt : j < al.length := (List.getElem?_eq_some_iff.1 hj).1
  have h3 := hspec t ht j (by rw [List.getElem?_map, hj]; simp [hyd])
  rw [Nat.zero_add] at h3
  have hnot : ¬ listed.getD j false = true → frL al F listed t = F 0 t := fun hl => by
   unfold frL
   rw [if_neg]
   rintro ⟨j', y', h4, h5, h6⟩
   rw [huniq j y j' y' hj hyd h4 h5] at hl
   exact hl h6
  have hkeep : ∀ (lo k : Nat), lo + k ≤ al.length → (∀ q, lo ≤ q → q < lo + k → q ≠ j) → F (lo + k) t = F lo t := fun lo k h4 h5 =>
   F_keep hoth k h4 fun q z h6 h7 h8 h9 => h5 q h6 h7 (huniq q z j y h8 h9 hj hyd)
  rcases h3 with h3 | ⟨h3, h4⟩ | ⟨h3, h4⟩
  ·subst h3
   rw [hnot (by rw [hi]; simp)]
   have := hkeep 0 j (by omega) (fun q h5 h6 => by omega)
   rw [Nat.zero_add] at this
   exact this.symm
  ·have hl : listed.getD j false = true := Reach.first hc hx (hreach _ _ h4) ha
   have e1 : frL al F listed t = F al.length t := by
    unfold frL
    rw [if_pos ⟨j, y, hj, hyd, hl⟩]
   have e2 := hkeep (j + 1) (al.length - (j + 1)) (by omega) (fun q h5 h6 => by omega)
   have e3 := hkeep (j + 1) (i - (j + 1)) (by omega) (fun q h5 h6 => by omega)
   rw [show j + 1 + (al.length - (j + 1)) = al.length from by omega] at e2
   rw [show j + 1 + (i - (j + 1)) = i from by omega] at e3
   rw [e1, e2, e3]
  ·have hl : ¬ listed.getD j false = true := fun h => by
    have := hc.reach (hreach _ _ h4) h
    rw [hi] at this
    cases this
   rw [hnot hl]
   have := hkeep 0 i (by omega) (fun q h5 h6 => by omega)
   rw [Nat.zero_add] at this
   exact this.symm
 ·have e1 : frL al F listed t = F 0 t := by
   unfold frL
   rw [if_neg]
   rintro ⟨j', y', h4, h5, _⟩
   exact hw ⟨j', y', h4, h5⟩
  have := F_keep (s := t) (lo := 0) hoth i (by omega) fun q z h6 h7 h8 h9 => hw ⟨q, z, h8, h9⟩
  rw [Nat.zero_add] at this
  rw [e1, this]
theorem frL_set {listed : Array Bool} {i : Nat} {x : AOper} (hx : al[i]? = some x) (hi : i < listed.size) : frL al F (listed.setIfInBounds i true) = put (frL al F listed) x.d ((x.d.map (F (i + 1))).getD .any) := by
 simp only [dok, Bool.and_eq_true] at hok
 obtain ⟨⟨hnd, _⟩, _⟩ := hok
 have hilt : i < al.length := (List.getElem?_eq_some_iff.1 hx).1
 funext s
 have huniq : ∀ (j : Nat) (y : AOper) (j' : Nat) (y' : AOper), al[j]? = some y → y.d = some s → al[j']? = some y' → y'.d = some s → j = j' := fun j y j' y' h1 h2 h3 h4 =>
  nodupD_spec hnd j j' s (by rw [List.getElem?_map, h1]; simp [h2]) (by rw [List.getElem?_map, h3]; simp [h4])
 by_cases hs : x.d = some s
 ·rw [hs]
  simp only [put, upd_same, Option.map_some, Option.getD_some]
  unfold frL
  rw [if_pos ⟨i, x, hx, hs, by rw [getD_set hi, if_pos rfl]⟩]
  have := F_keep (s := s) (lo := i + 1) hoth (al.length - (i + 1)) (by omega) fun q z h6 h7 h8 h9 => by
   have := huniq q z i x h8 h9 hx hs; omega
  rwa [show i + 1 + (al.length - (i + 1)) = al.length from by omega] at this
 ·have e1 : put (frL al F listed) x.d ((x.d.map (F (i + 1))).getD .any) s = frL al F listed s := by
   cases hd : x.d with
   | none => rfl
   | some d => exact upd_ne _ _ _ (fun e => hs (by rw [hd, e]))
  rw [e1]
  unfold frL
  have : (∃ (j : Nat) (y : AOper), al[j]? = some y ∧ y.d = some s ∧ (listed.setIfInBounds i true).getD j false = true) ↔ (∃ (j : Nat) (y : AOper), al[j]? = some y ∧ y.d = some s ∧ listed.getD j false = true) := by
   constructor
   ·rintro ⟨j, y, h1, h2, h3⟩
    rw [getD_set hi] at h3
    split at h3
    ·rename_i e; subst e; rw [hx] at h1; cases h1; exact absurd h2 hs
    ·exact ⟨j, y, h1, h2, h3⟩
   ·rintro ⟨j, y, h1, h2, h3⟩
    exact ⟨j, y, h1, h2, by rw [getD_set hi]; split <;> first | rfl | exact h3⟩
  by_cases hcc : ∃ (j : Nat) (y : AOper), al[j]? = some y ∧ y.d = some s ∧ listed.getD j false = true
  ·rw [if_pos (this.2 hcc), if_pos hcc]
  ·rw [if_neg (fun h => hcc (this.1 h)), if_neg hcc]
theorem frL_all {listed : Array Bool} (h : ∀ i, i < al.length → listed.getD i false = true) : frL al F listed = F al.length := by
 funext s
 unfold frL
 split
 ·rfl
 ·rename_i hn
  have := F_keep (s := s) (lo := 0) hoth al.length (by omega) fun q z _ h7 h8 h9 => hn ⟨q, z, h8, h9, h q (by omega)⟩
  rw [Nat.zero_add] at this
  exact this.symm
theorem ready_nil {listed : Array Bool} (hsz : listed.size = ops.size) (h : Region.ready .any ops listed = []) : ∀ i, i < ops.size → listed.getD i false = true := by
 simp only [dok, Bool.and_eq_true] at hok
 obtain ⟨⟨_, hord⟩, _⟩ := hok
 intro i
 induction i using Nat.strongRecOn with
 | _ i ih =>
  intro hi
  cases hl : listed.getD i false with
  | true => rfl
  | false =>
   exfalso
   obtain ⟨x, hx, hxo⟩ := (absOpers_get hal).2 i ops[i] (by simp [hi])
   have hxa := (absOper_some hxo).2.2.2.1
   have : i ∈ Region.ready .any ops listed := by
    rw [mem_ready]
    refine ⟨by simpa [Array.getD_eq_getD_getElem?, hsz, hi] using hl, ops[i], by simp [hi], fun e he hb => ?_⟩
    have hea : e.on ∈ x.af := by
     rw [hxa]
     exact List.mem_map.2 ⟨e, List.mem_filter.2 ⟨Array.mem_toList_iff.2 he, hb⟩, rfl⟩
    have hlt := (orderOk_spec _ _ al 0 hord i x hx).1 _ hea
    exact ih e.on (by omega) (by omega)
   rw [h] at this
   cases this
variable (htr : ∀ (i : Nat) (x : AOper), al[i]? = some x → TStep P G x (F i) (HH i) (F (i + 1)) (HH (i + 1)))
include htr
theorem dany (hQ : ∀ a w g, Rel G N ⟨F al.length, HH al.length, g.n⟩ g a w → Step w0 g0 w g → Q .normal a w) :
  ∀ (fuel : Nat) (listed : Array Bool) (a : Act) (w : World) (g : Gh), listed.size = ops.size → (∀ i, i < ops.size → listed.getD i false = false → 0 < fuel) → ((List.range ops.size).countP fun i => !listed.getD i false) = fuel → Closed al listed → Rel G N ⟨frL al F listed, hL al HH listed, g.n⟩ g a w → Step w0 g0 w g → wpAny P .any ops Q fuel listed a w := by
 have hlen : al.length = ops.size := by simpa using (absOpers_get hal).1
 have done : ∀ (listed : Array Bool) (a : Act) (w : World) (g : Gh), (∀ i, i < ops.size → listed.getD i false = true) → Rel G N ⟨frL al F listed, hL al HH listed, g.n⟩ g a w → Step w0 g0 w g → Q .normal a w := fun listed a w g h1 h2 h3 => by
  rw [frL_all hal hok hoth (fun i hi => h1 i (by omega)), hL_at htr (Nat.le_refl _) (fun j hj _ => ⟨fun _ => hj, fun _ => h1 j (by omega)⟩)] at h2
  exact hQ a w g h2 h3
 intro fuel
 induction fuel with
 | zero =>
  intro listed a w g hsz hpos hcnt hc hR hS
  have hall : ∀ i, i < ops.size → listed.getD i false = true := fun i hi => by
   cases h : listed.getD i false with
   | true => rfl
   | false => have := hpos i hi h; omega
  refine ⟨?_, done listed a w g hall hR hS⟩
  rw [List.eq_nil_iff_forall_not_mem]
  intro i hi
  obtain ⟨h1, o, h2, _⟩ := mem_ready.1 hi
  have := getD_tf h1
  rw [hall i (by rw [← hsz]; exact this.2)] at this
  cases this.1
 | succ fuel ih =>
  intro listed a w g hsz hpos hcnt hc hR hS
  refine ⟨fun h => done listed a w g (ready_nil hal hok hoth hsz h) hR hS, fun i hi => ?_⟩
  obtain ⟨h1, o, h2, h3⟩ := mem_ready.1 hi
  obtain ⟨h4, h5⟩ := getD_tf h1
  obtain ⟨x, hx, hxo⟩ := (absOpers_get hal).2 i o (by simpa using h2)
  obtain ⟨e1, e2, e3, e4, e5⟩ := absOper_some hxo
  have ha : ∀ e ∈ x.af, listed.getD e false = true := fun e he => by
   rw [e4] at he
   obtain ⟨ed, h6, rfl⟩ := List.mem_map.1 he
   obtain ⟨h7, h8⟩ := List.mem_filter.1 h6
   exact h3 ed (Array.mem_toList_iff.1 h7) h8
  have hnow := slot_now hal hok hoth hc hx h4 ha
  have hc' : Closed al (listed.setIfInBounds i true) := by
   intro j y hj hl e he
   rw [getD_set h5] at hl ⊢
   split
   ·rfl
   ·split at hl
    ·rename_i ej; subst ej; rw [hx] at hj; cases hj; exact ha e he
    ·exact hc j y hj hl e he
  have hsz' : (listed.setIfInBounds i true).size = ops.size := by simpa using hsz
  have hcnt' : ((List.range ops.size).countP fun j => !(listed.setIfInBounds i true).getD j false) = fuel := by
   have := cnt_less ops.size i (by omega) (fun j => !listed.getD j false) (by simp [h4])
   rw [hcnt] at this
   have e : (fun j => !(listed.setIfInBounds i true).getD j false) = fun j => (!listed.getD j false) && !(j == i) := by
    funext j
    rw [getD_set h5]
    by_cases hj : j = i
    ·simp [hj]
    ·simp [hj]
   rw [e]
   omega
  have hpos' : ∀ j, j < ops.size → (listed.setIfInBounds i true).getD j false = false → 0 < fuel := fun j hj hl => by
   rw [← hcnt', List.countP_pos_iff]
   exact ⟨j, List.mem_range.2 hj, by simp [hl]⟩
  have hilt : i < al.length := (List.getElem?_eq_some_iff.1 hx).1
  have hst : storeOk al = true := by
   have h' := hok
   simp only [dok, Bool.and_eq_true] at h'
   exact h'.2
  have stx : stAt al i = isStore x.o := by simp only [stAt, hx]
  have hstore : ∀ j y, al[j]? = some y → isStore y.o = true → stAt al j = true := fun j y hj hy => by simp only [stAt, hj, hy]
  have getst : ∀ j, stAt al j = true → ∃ y, al[j]? = some y ∧ isStore y.o = true := fun j hj => by
   unfold stAt at hj
   split at hj
   ·rename_i y hy; exact ⟨y, hy, hj⟩
   ·cases hj
  -- where a store is to come, the objects are as in the text's order
  have hLs : isStore x.o = true → hL al HH listed = HH i ∧ hL al HH (listed.setIfInBounds i true) = HH (i + 1) := fun hs => by
   have h1 : ∀ j, j < al.length → stAt al j = true → (listed.getD j false = true ↔ j < i) := fun j hj hsj => by
    obtain ⟨y, hy, hys⟩ := getst j hsj
    constructor
    ·intro hl
     rcases Nat.lt_trichotomy j i with h | h | h
     ·exact h
     ·subst h; rw [h4] at hl; cases hl
     ·have := hc j y hy hl i ((storeOk_spec hst hy hys hx).1 h (.inr hs))
      rw [h4] at this; cases this
    ·intro hji
     exact ha j ((storeOk_spec hst hx hs hy).1 hji (.inr hys))
   refine ⟨hL_at htr (by omega) h1, hL_at htr (by omega) fun j hj hsj => ?_⟩
   rw [getD_set h5]
   by_cases hji : j = i
   ·subst hji; simp
   ·rw [if_neg hji, h1 j hj hsj]; omega
  have hLn : isStore x.o = false → hL al HH (listed.setIfInBounds i true) = hL al HH listed := fun hs => by
   unfold hL
   rw [sIdx_same al.length fun j hj hsj => ?_]
   rw [getD_set h5, if_neg]
   rintro rfl
   rw [stx, hs] at hsj; cases hsj
  -- a reader reads what there was at the start
  have hLr : isReader x.o = true → hL al HH listed = HH i := fun hr => by
   refine hL_at htr (by omega) fun j hj hsj => ?_
   obtain ⟨y, hy, hys⟩ := getst j hsj
   constructor
   ·intro hl
    rcases Nat.lt_or_ge i j with h | h
    ·have := hc j y hy hl i ((storeOk_spec hst hy hys hx).1 h (.inl hr))
     rw [h4] at this; cases this
    ·have := (storeOk_spec hst hy hys hx).2 h
     rw [hr] at this; cases this
   ·intro hji
    have := (storeOk_spec hst hy hys hx).2 (by omega)
    rw [hr] at this; cases this
  have next : ∀ (v : AV) (u : Value) (g1 : Gh) (w1 : World), ((x.d.map (F (i + 1))).getD .any = v ∨ x.d = none) → Rep w1 g1 v u → Step w g w1 g1 → Inv w1 g1 → g1.H = hL al HH (listed.setIfInBounds i true) → wpAny P .any ops Q fuel (listed.setIfInBounds i true) (a.put o.dst u) w1 := fun v u g1 w1 hv hu hS1 hI1 hH1 => by
   refine ih _ _ w1 g1 hsz' hpos' hcnt' hc' ?_ (hS.trans hS1)
   have hput := hR.put hS1 hI1 e2 (x := v) hu
   rw [frL_set hal hok hoth hx h5, e1]
   rw [hH1] at hput
   rcases hv with hv | hv
   ·rw [← e1, hv]; rw [← e1] at hput; exact hput
   ·rw [e1] at hv
    rw [hv] at hput ⊢
    exact hput
  unfold wpOp
  simp only [h2]
  rcases htr i x hx with ⟨hHH, ⟨hg, v, hdop, hF⟩ | ⟨j, b, hg, hb, hF⟩⟩ | ⟨hg, hd0, hF, hss⟩
  ·have hw : Region.wanted o (yielded ops a.tmps) = true := by
    rcases e5 with ⟨e5, e6⟩ | ⟨j, b, d, e5, e6, e7, e8⟩
    ·simp [Region.wanted, e5]
    ·rcases hg with hg | ⟨j', b', hg, hb⟩
     ·rw [hg] at e8; cases e8
     ·have h89 : (d, b) = (j', b') := by rw [e8] at hg; exact Option.some.inj hg
      have hdj : d = j' := congrArg Prod.fst h89
      have hbb : b = b' := congrArg Prod.snd h89
      have hd : frL al F listed d = .lit (.bool b') := by rw [hnow d (by simp [AOper.slots, e8]), hdj]; exact hb
      rw [wanted_of hR e5 e6 e7 hd, hbb]; simp
   rw [if_pos hw]
   refine .inl ?_
   have hns := dop_store hdop
   have hdop1 : dop P G (hL al HH listed) (F i) x.o v := by
    cases hr : isReader x.o with
    | true => rw [hLr hr]; exact hdop
    | false =>
     refine dop_shape (fun s => ?_) hr hdop
     have h1 := HH_shape htr i (by omega) s
     have h2 := HH_shape htr (sIdx al listed al.length) (sIdx_le _) s
     exact h1.symm.trans h2
   have hdop' : dop P G (hL al HH listed) (frL al F listed) x.o v := dop_congr (fun n hn => (hnow n (by simp [AOper.slots, hn])).symm) hdop1
   refine aop_sound' hR e2 (K := fun st' => ∃ n', st' = ⟨put (frL al F listed) o.dst v, hL al HH listed, n'⟩) ?_ e3 (dop_aop (st := ⟨frL al F listed, hL al HH listed, g.n⟩) hdop' (K := fun _ => True) (fun _ _ => trivial))
   rintro st' g' a' w' ⟨n', rfl⟩ k1 k2
   have hn' : n' = g'.n := k1.n.symm
   subst hn'
   refine ih _ _ w' g' hsz' hpos' hcnt' hc' ?_ (hS.trans k2)
   rw [frL_set hal hok hoth hx h5, hLn hns]
   have : (x.d.map (F (i + 1))).getD .any = v ∨ x.d = none := by
    cases hd : x.d with
    | none => exact .inr rfl
    | some d => left; rw [hF, hd]; simp [put, upd_same]
   rcases this with hv | hv
   ·rw [hv, e1]; exact k1
   ·rw [e1] at hv
    rw [e1, hv]; rw [hv] at k1; exact k1
  ·have hw : ¬ Region.wanted o (yielded ops a.tmps) = true := by
    rcases e5 with ⟨e5, e6⟩ | ⟨j', b', d, e5, e6, e7, e8⟩
    ·rw [hg] at e6; cases e6
    ·have h89 : (d, b') = (j, b) := by rw [e8] at hg; exact Option.some.inj hg
     have hdj : d = j := congrArg Prod.fst h89
     have hbb : b' = b := congrArg Prod.snd h89
     rcases hb with hb | ⟨vs, hb⟩
     ·have hd : frL al F listed d = .lit (.bool (!b)) := by rw [hnow d (by simp [AOper.slots, e8]), hdj]; exact hb
      rw [wanted_of hR e5 e6 e7 hd, hbb]; cases b <;> decide
     ·have hd : frL al F listed d = .lit (.tuple vs) := by rw [hnow d (by simp [AOper.slots, e8]), hdj]; exact hb
      rw [wanted_of_tuple hR e5 e6 e7 hd]; decide
   rw [if_neg hw]
   refine next .und undef g w ?_ rfl (Step.refl _ _) hR.inv ?_
   ·cases hd : x.d with
    | none => exact .inr rfl
    | some d => left; rw [hF, hd]; simp [put, upd_same]
   ·rw [hR.H]
    cases hs : isStore x.o with
    | true => rw [(hLs hs).1, (hLs hs).2, hHH]
    | false => rw [hLn hs]
  ·have hw : Region.wanted o (yielded ops a.tmps) = true := by
    rcases e5 with ⟨e5, e6⟩ | ⟨j, b, d, e5, e6, e7, e8⟩
    ·simp [Region.wanted, e5]
    ·rw [hg] at e8; cases e8
   rw [if_pos hw]
   refine .inl ?_
   have hs : isStore x.o = true := by
    cases hxo : x.o with
    | store | mset => rfl
    | _ => rw [hxo] at hss; exact hss.elim
   have hss1 : SStep G x.o (frL al F listed) (hL al HH listed) (HH (i + 1)) := by
    rw [(hLs hs).1]
    exact hss.congr fun n hn => (hnow n (by simp [AOper.slots, hn])).symm
   have hdst : o.dst = none := by rw [← e1]; exact hd0
   refine aop_sound' hR e2 (K := fun st' => st' = ⟨frL al F listed, HH (i + 1), g.n⟩) ?_ e3 (by rw [hdst]; exact SStep.aop (st := ⟨frL al F listed, hL al HH listed, g.n⟩) hss1)
   rintro st' g' a' w' rfl k1 k2
   refine ih _ _ w' g' hsz' hpos' hcnt' hc' ?_ (hS.trans k2)
   rw [frL_set hal hok hoth hx h5, (hLs hs).2, hd0]
   have hn' : g.n = g'.n := k1.n.symm
   rw [← hn']
   exact k1
end
end Go.Ab
/-! Drawn regions with calls that write what is owned. -/
namespace Go.Ab
open Go.RowKit
variable {P : Program} {w w' : World} {g g' : Gh} {G : Nat → AV} {N : Nat} {st : St} {a : Act} {H : Nat → Option AObj}
def isCall : AOp → Bool
 | .call _ _ | .callv _ _ => true
 | _ => false
theorem aload_sub {H H' : Nat → Option AObj} (hs : Sub H H') {ag : Bool} {n : Nat} {x v : AV} (h : aload H ag n x = some v) : aload H' ag n x = some v := by
 cases x with
 | op i r c =>
  simp only [aload] at h ⊢
  cases hi : H i with
  | none => rw [hi] at h; cases h
  | some o => rw [hs i o hi]; rw [hi] at h; exact h
 | _ => exact h
theorem aidx_sub {H H' : Nat → Option AObj} (hs : Sub H H') {sz : Nat} {x i v : AV} (h : aidx H sz x i = some v) : aidx H' sz x i = some v := by
 cases x with
 | os j off len =>
  cases i with
  | lit y =>
   cases y with
   | int k n =>
    simp only [aidx] at h ⊢
    split at h
    ·rename_i hb
     rw [if_pos hb]
     cases hj : H j with
     | none => rw [hj] at h; cases h
     | some o => rw [hs j o hj]; rw [hj] at h; exact h
    ·cases h
   | _ => simp [aidx] at h
  | _ => simp [aidx] at h
 | ls nz rows => cases i with
  | lit y => cases y <;> first | exact h | simp [aidx] at h
  | _ => simp [aidx] at h
 | _ => simp [aidx] at h
theorem alook_sub {H H' : Nat → Option AObj} (hs : Sub H H') {ok : Bool} {kc : Nat} {z m k v : AV} (h : alook H ok kc z m k = some v) : alook H' ok kc z m k = some v := by
 cases m with
 | om i =>
  simp only [alook] at h ⊢
  cases hi : H i with
  | none => rw [hi] at h; cases h
  | some o => rw [hs i o hi]; rw [hi] at h; exact h
 | _ => exact h
theorem alenM_sub {H H' : Nat → Option AObj} (hs : Sub H H') {m v : AV} (h : alenM H m = some v) : alenM H' m = some v := by
 cases m with
 | om i =>
  simp only [alenM] at h ⊢
  cases hi : H i with
  | none => rw [hi] at h; cases h
  | some o => rw [hs i o hi]; rw [hi] at h; exact h
 | _ => exact h
theorem aent_sub {H H' : Nat → Option AObj} (hs : Sub H H') {m v : AV} (h : aent H m = some v) : aent H' m = some v := by
 cases m with
 | oit i =>
  simp only [aent] at h ⊢
  cases hi : H i with
  | none => rw [hi] at h; cases h
  | some o =>
   rw [hs i o hi]; rw [hi] at h
   simp only at h ⊢
   split at h
   ·rename_i k0 _ hk
    cases hj : H o.E with
    | none => rw [hj] at h; cases h
    | some om => rw [hs _ om hj]; rw [hj] at h; exact h
   ·cases h
 | _ => exact h
theorem srcRows_sub {H H' : Nat → Option AObj} (hs : Sub H H') {x : AV} {v : List (List AV)} (h : srcRows H x = some v) : srcRows H' x = some v := by
 cases x with
 | os i off len =>
  simp only [srcRows] at h ⊢
  cases hi : H i with
  | none => rw [hi] at h; cases h
  | some o => rw [hs i o hi]; rw [hi] at h; exact h
 | _ => exact h
theorem abts_sub {H H' : Nat → Option AObj} (hs : Sub H H') {x v : AV} (h : abts H x = some v) : abts H' x = some v := by
 unfold abts at h ⊢
 split at h
 ·rename_i rows hr
  rw [srcRows_sub hs hr]; exact h
 ·cases h
theorem asdat_sub {H H' : Nat → Option AObj} (hs : Sub H H') {x v : AV} (h : asdat H x = some v) : asdat H' x = some v := by
 unfold asdat at h ⊢
 split at h
 ·exact h
 ·rename_i i off len
  split at h
  ·rename_i o ho
   simp only [hs i o ho]
   exact h
  ·cases h
 ·cases h
theorem aupc_sub {H H' : Nat → Option AObj} (hs : Sub H H') {u k : Nat} {x v : AV} (h : aupc H u k x = some v) : aupc H' u k x = some v := by
 unfold aupc at h ⊢
 split at h
 ·exact h
 ·rename_i i
  split at h
  ·rename_i o ho
   simp only [hs i o ho]
   exact h
  ·cases h
 ·cases h
theorem dop_sub {H H' : Nat → Option AObj} (hs : Sub H H') {fr : Nat → AV} {o : AOp} {v : AV} (hc : isCall o = false) (h : dop P G H fr o v) : dop P G H' fr o v := by
 cases o with
 | idx sz x i => exact ⟨h.1, aidx_sub hs h.2⟩
 | sl sz x lo hi =>
  refine ⟨?_, h.2⟩
  have h1 := h.1
  generalize ev G fr x = y at h1 ⊢
  cases y with
  | os i off len => obtain ⟨o, h2, h3⟩ := h1; exact ⟨o, hs i o h2, h3⟩
  | _ => exact h1
 | load ag n x =>
  have h : aload H ag n (ev G fr x) = some v := h
  exact aload_sub hs h
 | look ok kc z m k => exact alook_sub hs h
 | lenM m => exact alenM_sub hs h
 | ent m => exact aent_sub hs h
 | bts x => exact abts_sub hs h
 | sdat x => exact asdat_sub hs h
 | upc u k x => exact aupc_sub hs h
 | call | callv => simp [isCall] at hc
 | _ => exact h
def EStep (P : Program) (G : Nat → AV) (Hs : Nat → Option AObj) (b : Bool) (x : AOper) (fr : Nat → AV) (H : Nat → Option AObj) (fr' : Nat → AV) (H' : Nat → Option AObj) : Prop :=
 (b = false ∧ H' = H ∧ DStep P G Hs x fr fr') ∨ (b = true ∧ x.g = none ∧ ∃ v, ECall P G x.o fr H v H' ∧ Sub Hs H' ∧ fr' = put fr x.d v)
inductive Tr (P : Program) (G : Nat → AV) (Hs : Nat → Option AObj) : List (Bool × AOper) → (Nat → AV) → (Nat → Option AObj) → (Nat → AV) → (Nat → Option AObj) → Prop
 | nil {fr H} : Tr P G Hs [] fr H fr H
 | cons {b x l fr H fr1 H1 fr2 H2} : EStep P G Hs b x fr H fr1 H1 → Tr P G Hs l fr1 H1 fr2 H2 → Tr P G Hs ((b, x) :: l) fr H fr2 H2
theorem Tr.append {Hs H H1 H2 : Nat → Option AObj} {l l' : List (Bool × AOper)} {fr fr1 fr2 : Nat → AV} (h : Tr P G Hs l fr H fr1 H1) (k : Tr P G Hs l' fr1 H1 fr2 H2) : Tr P G Hs (l ++ l') fr H fr2 H2 := by
 induction h with
 | nil => exact k
 | cons h1 _ ih => exact .cons h1 (ih k)
def flatE : List (List AOper × AOper) → List AOper → List (Bool × AOper)
 | [], last => last.map fun x => (false, x)
 | (A, c) :: r, last => A.map (fun x => (false, x)) ++ (true, c) :: flatE r last
theorem tr_of_steps {Hs : Nat → Option AObj} : ∀ (A : List AOper) (F : Nat → Nat → AV) (HH : Nat → Nat → Option AObj) (H : Nat → Option AObj), (∀ x ∈ A, isStore x.o = false) → HH 0 = Hs → (∀ (i : Nat) (x : AOper), A[i]? = some x → TStep P G x (F i) (HH i) (F (i + 1)) (HH (i + 1))) → Tr P G Hs (A.map fun x => (false, x)) (F 0) H (F A.length) H
 | [], F, HH, H, _, _, _ => .nil
 | x :: A, F, HH, H, hn, h0, h => by
  have h1 := h 0 x rfl
  have hx := hn x (by simp)
  have hk := h1.keep hx
  have hd : DStep P G Hs x (F 0) (F 1) := by
   rcases h1 with ⟨_, h1⟩ | ⟨_, _, _, h1⟩
   ·rw [h0] at h1; exact h1
   ·cases hxo : x.o with
    | store | mset => rw [hxo] at hx; cases hx
    | _ => rw [hxo] at h1; exact h1.elim
  refine .cons (.inl ⟨rfl, rfl, hd⟩) ?_
  exact tr_of_steps A (fun k => F (k + 1)) (fun k => HH (k + 1)) H (fun y hy => hn y (by simp [hy])) (by rw [← h0]; exact hk) fun i y hy => h (i + 1) y hy
theorem edops_tr {Hs : Nat → Option AObj} : ∀ (segs : List (List AOper × AOper)) (last : List AOper) (H : Nat → Option AObj) (fr : Nat → AV) (K : (Nat → AV) → (Nat → Option AObj) → Prop), (∀ x ∈ flatE segs last, isStore x.2.o = false) → edops P G Hs segs last H fr K → ∃ fr' H', Tr P G Hs (flatE segs last) fr H fr' H' ∧ K fr' H'
 | [], last, H, fr, K, hn, h => by
  obtain ⟨F, HH, h1, h2, h3, h4⟩ := adops_trace last Hs fr _ h
  refine ⟨F last.length, H, ?_, h3⟩
  have := tr_of_steps last F HH H (fun x hx => hn (false, x) (List.mem_map.2 ⟨x, hx, rfl⟩)) h2 h4
  rw [h1] at this
  exact this
 | (A, c) :: segs, last, H, fr, K, hn, h => by
  obtain ⟨F, HH, h1, h2, ⟨hg, v, H1, h3, h5, h6⟩, h4⟩ := adops_trace A Hs fr _ h
  obtain ⟨fr', H', h7, h8⟩ := edops_tr segs last H1 _ K (fun x hx => hn x (by simp only [flatE, List.mem_append, List.mem_cons]; exact .inr (.inr hx))) h6
  have := tr_of_steps A F HH H (fun x hx => hn (false, x) (by simp only [flatE, List.mem_append, List.mem_map]; exact .inl ⟨x, hx, rfl⟩)) h2 h4
  rw [h1] at this
  exact ⟨fr', H', this.append (.cons (.inr ⟨rfl, hg, v, h3, h5, rfl⟩) h7), h8⟩
theorem tr_trace {Hs : Nat → Option AObj} {fl : List (Bool × AOper)} {fr fr' : Nat → AV} {H H' : Nat → Option AObj} (h : Tr P G Hs fl fr H fr' H') : ∃ (F : Nat → Nat → AV) (HH : Nat → Nat → Option AObj), F 0 = fr ∧ HH 0 = H ∧ F fl.length = fr' ∧ HH fl.length = H' ∧ ∀ (i : Nat) (b : Bool) (x : AOper), fl[i]? = some (b, x) → EStep P G Hs b x (F i) (HH i) (F (i + 1)) (HH (i + 1)) := by
 induction h with
 | @nil fr H => exact ⟨fun _ => fr, fun _ => H, rfl, rfl, rfl, rfl, fun i b x hx => by simp at hx⟩
 | @cons b x l fr H fr1 H1 fr2 H2 h1 _ ih =>
  obtain ⟨F, HH, e1, e2, e3, e4, e5⟩ := ih
  refine ⟨fun k => match k with | 0 => fr | k + 1 => F k, fun k => match k with | 0 => H | k + 1 => HH k, rfl, rfl, e3, e4, fun i b' y hy => ?_⟩
  cases i with
  | zero => simp at hy; obtain ⟨rfl, rfl⟩ := hy; show EStep P G Hs b x fr H (F 0) (HH 0); rw [e1, e2]; exact h1
  | succ i => exact e5 i b' y (by simpa using hy)
theorem EStep.other {Hs H H' : Nat → Option AObj} {b : Bool} {x : AOper} {fr fr' : Nat → AV} (h : EStep P G Hs b x fr H fr' H') {s : Nat} (hs : x.d ≠ some s) : fr' s = fr s := by
 rcases h with ⟨_, _, h⟩ | ⟨_, _, v, _, _, rfl⟩
 ·exact h.other hs
 ·cases hd : x.d with
  | none => rfl
  | some d => exact upd_ne _ _ _ (fun e => hs (by rw [hd, e]))
def eok (fl : List (Bool × AOper)) : Bool :=
 (fl.all fun (b, x) => !isStore x.o && (b || !isCall x.o)) && (fl.zipIdx.all fun ((b, _), i) => !b || fl.zipIdx.all fun ((b', _), j) => !(b' && decide (j < i)) || ((befs [] (fl.map (·.2))).getD i 0).testBit j)
theorem eok_spec {fl : List (Bool × AOper)} (h : eok fl = true) : (∀ (b : Bool) (x : AOper), (b, x) ∈ fl → isStore x.o = false ∧ (b = false → isCall x.o = false)) ∧ ∀ (i j : Nat) (x y : AOper), fl[i]? = some (true, x) → fl[j]? = some (true, y) → j < i → ((befs [] (fl.map (·.2))).getD i 0).testBit j = true := by
 simp only [eok, Bool.and_eq_true] at h
 refine ⟨fun b x hx => ?_, fun i j x y hx hy hj => ?_⟩
 ·have := List.all_eq_true.1 h.1 (b, x) hx
  simp only [Bool.and_eq_true, Bool.not_eq_true', Bool.or_eq_true] at this
  refine ⟨this.1, fun hb => ?_⟩
  rcases this.2 with h1 | h1
  ·rw [hb] at h1; cases h1
  ·exact h1
 ·have h1 := List.all_eq_true.1 h.2 ((true, x), i) (by rw [List.mem_zipIdx_iff_getElem?]; exact hx)
  simp only [Bool.not_true, Bool.false_or] at h1
  have h2 := List.all_eq_true.1 h1 ((true, y), j) (by rw [List.mem_zipIdx_iff_getElem?]; exact hy)
  simpa [hj] using h2
def eAt (fl : List (Bool × AOper)) (i : Nat) : Bool := match fl[i]? with
 | some (b, _) => b
 | none => false
def eIdx (fl : List (Bool × AOper)) (listed : Array Bool) : Nat → Nat
 | 0 => 0
 | n + 1 => if eAt fl n && listed.getD n false then n + 1 else eIdx fl listed n
def hE (fl : List (Bool × AOper)) (HH : Nat → Nat → Option AObj) (listed : Array Bool) : Nat → Option AObj := HH (eIdx fl listed fl.length)
theorem eIdx_same {fl : List (Bool × AOper)} {listed listed' : Array Bool} : ∀ (n : Nat), (∀ j, j < n → eAt fl j = true → listed'.getD j false = listed.getD j false) → eIdx fl listed' n = eIdx fl listed n
 | 0, _ => rfl
 | n + 1, h => by
  simp only [eIdx]
  rw [eIdx_same n fun j hj => h j (by omega)]
  cases hs : eAt fl n with
  | false => rfl
  | true => rw [h n (by omega) hs]
theorem eIdx_le {fl : List (Bool × AOper)} {listed : Array Bool} : ∀ (n : Nat), eIdx fl listed n ≤ n
 | 0 => Nat.le_refl _
 | n + 1 => by
  simp only [eIdx]
  split
  ·exact Nat.le_refl _
  ·exact Nat.le_trans (eIdx_le n) (Nat.le_succ _)
section
variable {fl : List (Bool × AOper)} {F : Nat → Nat → AV} {HH : Nat → Nat → Option AObj} {Hs : Nat → Option AObj}
theorem hE_at (htr : ∀ (i : Nat) (b : Bool) (x : AOper), fl[i]? = some (b, x) → EStep P G Hs b x (F i) (HH i) (F (i + 1)) (HH (i + 1))) {listed : Array Bool} {i : Nat} (hi : i ≤ fl.length) (h : ∀ j, j < fl.length → eAt fl j = true → (listed.getD j false = true ↔ j < i)) : hE fl HH listed = HH i := by
 have key : ∀ n, n ≤ fl.length → HH (eIdx fl listed n) = HH (min n i) := by
  intro n
  induction n with
  | zero => intro _; simp [eIdx]
  | succ n ih =>
   intro hn
   have ihn := ih (by omega)
   simp only [eIdx]
   have hx := List.getElem?_eq_getElem (show n < fl.length by omega)
   by_cases hni : n < i
   ·rw [show min (n + 1) i = n + 1 from by omega]
    rw [show min n i = n from by omega] at ihn
    cases hs : eAt fl n with
    | true =>
     rw [(h n (by omega) hs).2 hni]; rfl
    | false =>
     have hk : HH (n + 1) = HH n := by
      rcases htr n _ _ hx with ⟨_, h1, _⟩ | ⟨h1, _⟩
      ·exact h1
      ·rw [eAt, hx] at hs; exact absurd (h1.symm.trans hs) (by decide)
     simp only [Bool.false_and, Bool.false_eq_true, if_false]
     rw [ihn, hk]
   ·rw [show min (n + 1) i = i from by omega]
    rw [show min n i = i from by omega] at ihn
    cases hs : eAt fl n with
    | true =>
     have : listed.getD n false = false := by
      cases hl : listed.getD n false with
      | false => rfl
      | true => exact absurd ((h n (by omega) hs).1 hl) hni
     simp only [this, Bool.and_false, Bool.false_eq_true, if_false]
     exact ihn
    | false =>
     simp only [Bool.false_and, Bool.false_eq_true, if_false]
     exact ihn
 have := key fl.length (Nat.le_refl _)
 rw [show min fl.length i = i from by omega] at this
 exact this
theorem HH_sub (h0 : Sub Hs (HH 0)) (htr : ∀ (i : Nat) (b : Bool) (x : AOper), fl[i]? = some (b, x) → EStep P G Hs b x (F i) (HH i) (F (i + 1)) (HH (i + 1))) : ∀ (k : Nat), k ≤ fl.length → Sub Hs (HH k)
 | 0, _ => h0
 | k + 1, hk => by
  have hx := List.getElem?_eq_getElem (show k < fl.length by omega)
  rcases htr k _ _ hx with ⟨_, h1, _⟩ | ⟨_, _, v, _, h1, _⟩
  ·rw [h1]; exact HH_sub h0 htr k (by omega)
  ·exact h1
end
theorem ECall.congr {o : AOp} {fr fr' : Nat → AV} {H H' : Nat → Option AObj} {v : AV} (h : ∀ n ∈ o.slots, fr n = fr' n) (hd : ECall P G o fr H v H') : ECall P G o fr' H v H' := by
 cases o with
 | call f xs =>
  simp only [ECall] at hd ⊢
  rwa [← evs_congr h]
 | _ => exact hd.elim
theorem ECall.aop {o : AOp} {d : Option Nat} {v : AV} {H' : Nat → Option AObj} (h : ECall P G o st.fr st.H v H') : aop P G o d st fun st' => ∃ n', st' = ⟨put st.fr d v, H', n'⟩ := by
 cases o with
 | call f xs =>
  simp only [Ab.aop]
  exact ACalls.mono (h st.n) (fun (r : AV) (H1 : Nat → Option AObj) (n' : Nat) (hh : r = v ∧ H1 = H') => ⟨n', by rw [hh.1, hh.2]⟩)
 | _ => exact h.elim
section
variable {own : List Nat} {ops : Array Oper} {fl : List (Bool × AOper)} {F : Nat → Nat → AV} {HH : Nat → Nat → Option AObj} {Hs : Nat → Option AObj} {Q : Exit → Act → World → Prop} {w0 : World} {g0 : Gh}
theorem edany (hal : absOpers P N own ops ops.toList = some (fl.map (·.2))) (hok : dok (fl.map (·.2)) = true) (hek : eok fl = true) (h0 : Sub Hs (HH 0)) (htr : ∀ (i : Nat) (b : Bool) (x : AOper), fl[i]? = some (b, x) → EStep P G Hs b x (F i) (HH i) (F (i + 1)) (HH (i + 1)))
  (hQ : ∀ a w g, Rel G N ⟨F fl.length, HH fl.length, g.n⟩ g a w → Step w0 g0 w g → Q .normal a w) :
  ∀ (fuel : Nat) (listed : Array Bool) (a : Act) (w : World) (g : Gh), listed.size = ops.size → (∀ i, i < ops.size → listed.getD i false = false → 0 < fuel) → ((List.range ops.size).countP fun i => !listed.getD i false) = fuel → Closed (fl.map (·.2)) listed → Rel G N ⟨frL (fl.map (·.2)) F listed, hE fl HH listed, g.n⟩ g a w → Step w0 g0 w g → wpAny P .any ops Q fuel listed a w := by
 have hlen : (fl.map (·.2)).length = ops.size := by simpa using (absOpers_get hal).1
 have hlen2 : fl.length = ops.size := by simpa using hlen
 have hoth : ∀ (i : Nat) (x : AOper), (fl.map (·.2))[i]? = some x → ∀ s, x.d ≠ some s → F (i + 1) s = F i s := fun i x hx s hs => by
  rw [List.getElem?_map, Option.map_eq_some_iff] at hx
  obtain ⟨⟨b, y⟩, h1, rfl⟩ := hx
  exact (htr i b y h1).other hs
 have hreach : ∀ i j, ((befs [] (fl.map (·.2))).getD i 0).testBit j = true → Reach (fl.map (·.2)) i j := befs_sound _ _ [] (fun k => by simp) (fun i j h => by simp at h)
 obtain ⟨ek1, ek2⟩ := eok_spec hek
 have done : ∀ (listed : Array Bool) (a : Act) (w : World) (g : Gh), (∀ i, i < ops.size → listed.getD i false = true) → Rel G N ⟨frL (fl.map (·.2)) F listed, hE fl HH listed, g.n⟩ g a w → Step w0 g0 w g → Q .normal a w := fun listed a w g h1 h2 h3 => by
  rw [frL_all hal hok hoth (fun i hi => h1 i (by omega)), hE_at htr (Nat.le_refl _) (fun j hj _ => ⟨fun _ => hj, fun _ => h1 j (by omega)⟩), List.length_map] at h2
  exact hQ a w g h2 h3
 intro fuel
 induction fuel with
 | zero =>
  intro listed a w g hsz hpos hcnt hc hR hS
  have hall : ∀ i, i < ops.size → listed.getD i false = true := fun i hi => by
   cases h : listed.getD i false with
   | true => rfl
   | false => have := hpos i hi h; omega
  refine ⟨?_, done listed a w g hall hR hS⟩
  rw [List.eq_nil_iff_forall_not_mem]
  intro i hi
  obtain ⟨h1, o, h2, _⟩ := mem_ready.1 hi
  have := getD_tf h1
  rw [hall i (by rw [← hsz]; exact this.2)] at this
  cases this.1
 | succ fuel ih =>
  intro listed a w g hsz hpos hcnt hc hR hS
  refine ⟨fun h => done listed a w g (ready_nil hal hok hoth hsz h) hR hS, fun i hi => ?_⟩
  obtain ⟨h1, o, h2, h3⟩ := mem_ready.1 hi
  obtain ⟨h4, h5⟩ := getD_tf h1
  obtain ⟨x, hx, hxo⟩ := (absOpers_get hal).2 i o (by simpa using h2)
  obtain ⟨e1, e2, e3, e4, e5⟩ := absOper_some hxo
  have ha : ∀ e ∈ x.af, listed.getD e false = true := fun e he => by
   rw [e4] at he
   obtain ⟨ed, h6, rfl⟩ := List.mem_map.1 he
   obtain ⟨h7, h8⟩ := List.mem_filter.1 h6
   exact h3 ed (Array.mem_toList_iff.1 h7) h8
  have hnow := slot_now hal hok hoth hc hx h4 ha
  have hc' : Closed (fl.map (·.2)) (listed.setIfInBounds i true) := by
   intro j y hj hl e he
   rw [getD_set h5] at hl ⊢
   split
   ·rfl
   ·split at hl
    ·rename_i ej; subst ej; rw [hx] at hj; cases hj; exact ha e he
    ·exact hc j y hj hl e he
  have hsz' : (listed.setIfInBounds i true).size = ops.size := by simpa using hsz
  have hcnt' : ((List.range ops.size).countP fun j => !(listed.setIfInBounds i true).getD j false) = fuel := by
   have := cnt_less ops.size i (by omega) (fun j => !listed.getD j false) (by simp [h4])
   rw [hcnt] at this
   have e : (fun j => !(listed.setIfInBounds i true).getD j false) = fun j => (!listed.getD j false) && !(j == i) := by
    funext j
    rw [getD_set h5]
    by_cases hj : j = i
    ·simp [hj]
    ·simp [hj]
   rw [e]
   omega
  have hpos' : ∀ j, j < ops.size → (listed.setIfInBounds i true).getD j false = false → 0 < fuel := fun j hj hl => by
   rw [← hcnt', List.countP_pos_iff]
   exact ⟨j, List.mem_range.2 hj, by simp [hl]⟩
  have hfx : ∃ b, fl[i]? = some (b, x) := by
   have h' := hx
   rw [List.getElem?_map, Option.map_eq_some_iff] at h'
   obtain ⟨⟨b, y⟩, h1', rfl⟩ := h'
   exact ⟨b, h1'⟩
  obtain ⟨b, hfx⟩ := hfx
  have hilt : i < fl.length := (List.getElem?_eq_some_iff.1 hfx).1
  have ebx : eAt fl i = b := by simp only [eAt, hfx]
  have getst : ∀ j, eAt fl j = true → ∃ y, fl[j]? = some (true, y) := fun j hj => by
   unfold eAt at hj
   split at hj
   ·rename_i b' y hy; subst hj; exact ⟨y, hy⟩
   ·cases hj
  have hLs : b = true → hE fl HH listed = HH i ∧ hE fl HH (listed.setIfInBounds i true) = HH (i + 1) := fun hb => by
   subst hb
   have h1 : ∀ j, j < fl.length → eAt fl j = true → (listed.getD j false = true ↔ j < i) := fun j hj hsj => by
    obtain ⟨y, hy⟩ := getst j hsj
    constructor
    ·intro hl
     rcases Nat.lt_trichotomy j i with h | h | h
     ·exact h
     ·subst h; rw [h4] at hl; cases hl
     ·have := hc.reach (hreach j i (ek2 j i y x hy hfx h)) hl
      rw [h4] at this; cases this
    ·intro hji
     exact Reach.first hc hx (hreach i j (ek2 i j x y hfx hy hji)) ha
   refine ⟨hE_at htr (by omega) h1, hE_at htr (by omega) fun j hj hsj => ?_⟩
   rw [getD_set h5]
   by_cases hji : j = i
   ·subst hji; simp
   ·rw [if_neg hji, h1 j hj hsj]; omega
  have hLn : b = false → hE fl HH (listed.setIfInBounds i true) = hE fl HH listed := fun hb => by
   unfold hE
   rw [eIdx_same fl.length fun j hj hsj => ?_]
   rw [getD_set h5, if_neg]
   rintro rfl
   rw [ebx, hb] at hsj; cases hsj
  have hsubE : Sub Hs (hE fl HH listed) := HH_sub h0 htr _ (eIdx_le _)
  unfold wpOp
  simp only [h2]
  rcases htr i b x hfx with ⟨hb, hHH, ⟨hg, v, hdop, hF⟩ | ⟨j, b', hg, hb', hF⟩⟩ | ⟨hb, hg, v, hec, hsub, hF⟩
  ·have hw : Region.wanted o (yielded ops a.tmps) = true := by
    rcases e5 with ⟨e5, e6⟩ | ⟨j, b, d, e5, e6, e7, e8⟩
    ·simp [Region.wanted, e5]
    ·rcases hg with hg | ⟨j', b', hg, hb⟩
     ·rw [hg] at e8; cases e8
     ·have h89 : (d, b) = (j', b') := by rw [e8] at hg; exact Option.some.inj hg
      have hdj : d = j' := congrArg Prod.fst h89
      have hbb : b = b' := congrArg Prod.snd h89
      have hd : frL (fl.map (·.2)) F listed d = .lit (.bool b') := by rw [hnow d (by simp [AOper.slots, e8]), hdj]; exact hb
      rw [wanted_of hR e5 e6 e7 hd, hbb]; simp
   rw [if_pos hw]
   refine .inl ?_
   have hdop1 : dop P G (hE fl HH listed) (F i) x.o v := dop_sub hsubE ((ek1 b x (List.mem_of_getElem? hfx)).2 hb) hdop
   have hdop' : dop P G (hE fl HH listed) (frL (fl.map (·.2)) F listed) x.o v := dop_congr (fun n hn => (hnow n (by simp [AOper.slots, hn])).symm) hdop1
   refine aop_sound' hR e2 (K := fun st' => ∃ n', st' = ⟨put (frL (fl.map (·.2)) F listed) o.dst v, hE fl HH listed, n'⟩) ?_ e3 (dop_aop (st := ⟨frL (fl.map (·.2)) F listed, hE fl HH listed, g.n⟩) hdop' (K := fun _ => True) (fun _ _ => trivial))
   rintro st' g' a' w' ⟨n', rfl⟩ k1 k2
   have hn' : n' = g'.n := k1.n.symm
   subst hn'
   refine ih _ _ w' g' hsz' hpos' hcnt' hc' ?_ (hS.trans k2)
   rw [frL_set hal hok hoth hx h5, hLn hb]
   have : (x.d.map (F (i + 1))).getD .any = v ∨ x.d = none := by
    cases hd : x.d with
    | none => exact .inr rfl
    | some d => left; rw [hF, hd]; simp [put, upd_same]
   rcases this with hv | hv
   ·rw [hv, e1]; exact k1
   ·rw [e1] at hv
    rw [e1, hv]; rw [hv] at k1; exact k1
  ·have hw : ¬ Region.wanted o (yielded ops a.tmps) = true := by
    rcases e5 with ⟨e5, e6⟩ | ⟨j', b'', d, e5, e6, e7, e8⟩
    ·rw [hg] at e6; cases e6
    ·have h89 : (d, b'') = (j, b') := by rw [e8] at hg; exact Option.some.inj hg
     have hdj : d = j := congrArg Prod.fst h89
     have hbb : b'' = b' := congrArg Prod.snd h89
     rcases hb' with hb' | ⟨vs, hb'⟩
     ·have hd : frL (fl.map (·.2)) F listed d = .lit (.bool (!b')) := by rw [hnow d (by simp [AOper.slots, e8]), hdj]; exact hb'
      rw [wanted_of hR e5 e6 e7 hd, hbb]; cases b' <;> decide
     ·have hd : frL (fl.map (·.2)) F listed d = .lit (.tuple vs) := by rw [hnow d (by simp [AOper.slots, e8]), hdj]; exact hb'
      rw [wanted_of_tuple hR e5 e6 e7 hd]; decide
   rw [if_neg hw]
   refine ih _ _ w g hsz' hpos' hcnt' hc' ?_ (hS.trans (Step.refl _ _))
   have hv : (x.d.map (F (i + 1))).getD .any = .und ∨ x.d = none := by
    cases hd : x.d with
    | none => exact .inr rfl
    | some d => left; rw [hF, hd]; simp [put, upd_same]
   have hput := hR.put (Step.refl _ _) hR.inv e2 (x := .und) (v := undef) rfl
   rw [frL_set hal hok hoth hx h5, e1, hLn hb]
   rw [hR.H] at hput
   rcases hv with hv | hv
   ·rw [← e1, hv]; rw [← e1] at hput; exact hput
   ·rw [e1] at hv
    rw [hv] at hput ⊢
    exact hput
  ·have hw : Region.wanted o (yielded ops a.tmps) = true := by
    rcases e5 with ⟨e5, e6⟩ | ⟨j, b, d, e5, e6, e7, e8⟩
    ·simp [Region.wanted, e5]
    ·rw [hg] at e8; cases e8
   rw [if_pos hw]
   refine .inl ?_
   have hec1 : ECall P G x.o (frL (fl.map (·.2)) F listed) (hE fl HH listed) v (HH (i + 1)) := by
    rw [(hLs hb).1]
    exact hec.congr fun n hn => (hnow n (by simp [AOper.slots, hn])).symm
   refine aop_sound' hR e2 (K := fun st' => ∃ n', st' = ⟨put (frL (fl.map (·.2)) F listed) o.dst v, HH (i + 1), n'⟩) ?_ e3 (ECall.aop (st := ⟨frL (fl.map (·.2)) F listed, hE fl HH listed, g.n⟩) hec1)
   rintro st' g' a' w' ⟨n', rfl⟩ k1 k2
   have hn' : n' = g'.n := k1.n.symm
   subst hn'
   refine ih _ _ w' g' hsz' hpos' hcnt' hc' ?_ (hS.trans k2)
   rw [frL_set hal hok hoth hx h5, (hLs hb).2]
   have : (x.d.map (F (i + 1))).getD .any = v ∨ x.d = none := by
    cases hd : x.d with
    | none => exact .inr rfl
    | some d => left; rw [hF, hd]; simp [put, upd_same]
   rcases this with hv | hv
   ·rw [hv, e1]; exact k1
   ·rw [e1] at hv
    rw [e1, hv]; rw [hv] at k1; exact k1
end
end Go.Ab
/-! Drawn regions with one new cell that is written once. -/
namespace Go.Ab
open Go.RowKit
variable {P : Program} {w w' : World} {g g' : Gh} {G : Nat → AV} {N : Nat} {st : St} {a : Act} {H : Nat → Option AObj}
def isAlloc (n E : Nat) : AOp → Bool
 | .alloc E' z => decide (E' = E) && decide (z.length = n)
 | _ => false
def isNew : AOp → Bool
 | .alloc _ _ => true
 | _ => false
def isPut (n d : Nat) : AOp → Bool
 | .store _ n' (.t d') y => decide (n' = n) && decide (d' = d) && !y.slots.contains d
 | _ => false
def isCallv : AOp → Bool
 | .callv _ _ => true
 | _ => false
def aokAt (j s d n E : Nat) (x : AOper) (i : Nat) : Bool :=
 x.g.isNone && (if i = j then x.d == some d && isAlloc n E x.o
  else if i = s then x.d.isNone && (x.af.contains j && isPut n d x.o)
  else (!isStore x.o && !isNew x.o) && (!isCallv x.o && (!x.slots.contains d && !(x.d == some d))))
def aok (al : List AOper) (j s d n E : Nat) : Bool := (decide (j < al.length) && decide (s < al.length) && !(j == s)) && al.zipIdx.all fun (x, i) => aokAt j s d n E x i
theorem aok_spec {al : List AOper} {j s d n E : Nat} (h : aok al j s d n E = true) : j < al.length ∧ s < al.length ∧ j ≠ s ∧ ∀ i x, al[i]? = some x → aokAt j s d n E x i = true := by
 simp only [aok, Bool.and_eq_true, decide_eq_true_eq, Bool.not_eq_true', beq_eq_false_iff_ne] at h
 obtain ⟨⟨⟨h1, h2⟩, h3⟩, h4⟩ := h
 exact ⟨h1, h2, h3, fun i x hx => List.all_eq_true.1 h4 (x, i) (by rw [List.mem_zipIdx_iff_getElem?]; exact hx)⟩
def AStep (P : Program) (G : Nat → AV) (H : Nat → Option AObj) (cs : List AV) (x : AOper) (fr fr' : Nat → AV) : Prop := match x.o with
 | .alloc _ _ => fr' = put fr x.d .any
 | .store _ _ _ y => (ev G fr y).cells? = some cs ∧ fr' = fr
 | .call f args => ∃ v, (∀ H', Sub H H' → AFn P G f (evs G fr args) H' v) ∧ fr' = put fr x.d v
 | o => ∃ v, dop P G H fr o v ∧ fr' = put fr x.d v
theorem asteps_trace {cs : List AV} : ∀ (al : List AOper) (fr : Nat → AV) (K : (Nat → AV) → Prop), asteps P G H cs al fr K → ∃ F : Nat → Nat → AV, F 0 = fr ∧ K (F al.length) ∧ ∀ (i : Nat) (x : AOper), al[i]? = some x → AStep P G H cs x (F i) (F (i + 1))
 | [], fr, K, h => ⟨fun _ => fr, rfl, h, fun i x hx => by simp at hx⟩
 | y :: al, fr, K, h => by
  have key : ∃ fr1, AStep P G H cs y fr fr1 ∧ asteps P G H cs al fr1 K := by
   obtain ⟨d, o, gg, af⟩ := y
   cases o <;> simp only [asteps, AStep] at h ⊢ <;> first
    | exact ⟨_, rfl, h⟩
    | exact ⟨_, ⟨h.1, rfl⟩, h.2⟩
    | (obtain ⟨v, h1, h2⟩ := h; exact ⟨_, ⟨v, h1, rfl⟩, h2⟩)
  obtain ⟨fr1, h1, h2⟩ := key
  obtain ⟨F, h3, h4, h5⟩ := asteps_trace al fr1 K h2
  refine ⟨fun k => match k with | 0 => fr | k + 1 => F k, rfl, h4, fun i x hx => ?_⟩
  cases i with
  | zero => simp at hx; subst hx; show AStep P G H cs y fr (F 0); rw [h3]; exact h1
  | succ i => exact h5 i x (by simpa using hx)
theorem AStep.other {cs : List AV} {x : AOper} {fr fr' : Nat → AV} (h : AStep P G H cs x fr fr') {s : Nat} (hs : x.d ≠ some s) : fr' s = fr s := by
 have : ∀ v, put fr x.d v s = fr s := fun v => by
  cases hd : x.d with
  | none => rfl
  | some d => exact upd_ne _ _ _ (fun e => hs (by rw [hd, e]))
 unfold AStep at h
 split at h
 ·rw [h]; exact this _
 ·rw [h.2]
 ·obtain ⟨v, _, rfl⟩ := h; exact this _
 ·obtain ⟨v, _, rfl⟩ := h; exact this _
def adop (P : Program) (G : Nat → AV) (H : Nat → Option AObj) (fr : Nat → AV) (o : AOp) (v : AV) : Prop := ∀ H', Sub H H' → dop P G H' fr o v
theorem AStep.plain {cs : List AV} {x : AOper} {fr fr' : Nat → AV} (h : AStep P G H cs x fr fr') (h1 : isStore x.o = false) (h2 : isNew x.o = false) (h3 : isCallv x.o = false) : ∃ v, adop P G H fr x.o v ∧ fr' = put fr x.d v := by
 obtain ⟨d, o, gg, af⟩ := x
 cases o with
 | alloc => simp [isNew] at h2
 | store => simp [isStore] at h1
 | callv => simp [isCallv] at h3
 | call f args =>
  obtain ⟨v, h4, h5⟩ := h
  exact ⟨v, fun H' hs => h4 H' hs, h5⟩
 | _ =>
  obtain ⟨v, h4, h5⟩ := h
  exact ⟨v, fun H' hs => dop_sub hs rfl h4, h5⟩
section
variable {own : List Nat} {ops : Array Oper} {al : List AOper} {F : Nat → Nat → AV} {cs : List AV} {Q : Exit → Act → World → Prop} {w0 : World} {g0 : Gh} {j s d n E : Nat} {H0 : Nat → Option AObj}
def AIs (G : Nat → AV) (N : Nat) (al : List AOper) (F : Nat → Nat → AV) (cs : List AV) (j s d n E n0 : Nat) (H0 : Nat → Option AObj) (listed : Array Bool) (g : Gh) (a : Act) (w : World) : Prop :=
 (listed.getD j false = false ∧ Rel G N ⟨frL al F listed, H0, g.n⟩ g a w) ∨
 (listed.getD j false = true ∧ ∃ m cells, n0 ≤ m ∧ m < g.n ∧ cells.length = n ∧ (listed.getD s false = true → cells = cs) ∧ Rel G N ⟨upd (frL al F listed) d (.op m 0 0), upd H0 m (some ⟨E, n, [cells]⟩), g.n⟩ g a w)
theorem adany (hal : absOpers P N own ops ops.toList = some al) (hok : dok al = true) (hak : aok al j s d n E = true) (hcl : cs.length = n) (hc1 : cs.all AV.one = true) {n0 : Nat} (hlow : ∀ i o, H0 i = some o → i < n0) (hn0 : n0 ≤ g0.n)
  (htr : ∀ (i : Nat) (x : AOper), al[i]? = some x → AStep P G H0 cs x (F i) (F (i + 1)))
  (hQ : ∀ a w g m, n0 ≤ m → m < g.n → Rel G N ⟨upd (F al.length) d (.op m 0 0), upd H0 m (some ⟨E, n, [cs]⟩), g.n⟩ g a w → Step w0 g0 w g → Q .normal a w) :
  ∀ (fuel : Nat) (listed : Array Bool) (a : Act) (w : World) (g : Gh), listed.size = ops.size → (∀ i, i < ops.size → listed.getD i false = false → 0 < fuel) → ((List.range ops.size).countP fun i => !listed.getD i false) = fuel → Closed al listed → AIs G N al F cs j s d n E n0 H0 listed g a w → Step w0 g0 w g → wpAny P .any ops Q fuel listed a w := by
 obtain ⟨hj, hs, hjs, hat⟩ := aok_spec hak
 have hlen : al.length = ops.size := by simpa using (absOpers_get hal).1
 have hoth : ∀ (i : Nat) (x : AOper), al[i]? = some x → ∀ s, x.d ≠ some s → F (i + 1) s = F i s := fun i x hx s hs => (htr i x hx).other hs
 have hsubm : ∀ m o, n0 ≤ m → Sub H0 (upd H0 m o) := fun m o hm i x hi => by
  have := hlow i x hi
  rw [upd_ne _ _ _ (by omega)]; exact hi
 have done : ∀ (listed : Array Bool) (a : Act) (w : World) (g : Gh), (∀ i, i < ops.size → listed.getD i false = true) → AIs G N al F cs j s d n E n0 H0 listed g a w → Step w0 g0 w g → Q .normal a w := fun listed a w g h1 h2 h3 => by
  rcases h2 with ⟨h2, _⟩ | ⟨_, m, cells, k1, k2, k3, k4, k5⟩
  ·rw [h1 j (by omega)] at h2; cases h2
  ·rw [frL_all hal hok hoth (fun i hi => h1 i (by omega)), k4 (h1 s (by omega))] at k5
   exact hQ a w g m k1 k2 k5 h3
 intro fuel
 induction fuel with
 | zero =>
  intro listed a w g hsz hpos hcnt hc hR hS
  have hall : ∀ i, i < ops.size → listed.getD i false = true := fun i hi => by
   cases h : listed.getD i false with
   | true => rfl
   | false => have := hpos i hi h; omega
  refine ⟨?_, done listed a w g hall hR hS⟩
  rw [List.eq_nil_iff_forall_not_mem]
  intro i hi
  obtain ⟨h1, o, h2, _⟩ := mem_ready.1 hi
  have := getD_tf h1
  rw [hall i (by rw [← hsz]; exact this.2)] at this
  cases this.1
 | succ fuel ih =>
  intro listed a w g hsz hpos hcnt hc hR hS
  refine ⟨fun h => done listed a w g (ready_nil hal hok hoth hsz h) hR hS, fun i hi => ?_⟩
  obtain ⟨h1, o, h2, h3⟩ := mem_ready.1 hi
  obtain ⟨h4, h5⟩ := getD_tf h1
  obtain ⟨x, hx, hxo⟩ := (absOpers_get hal).2 i o (by simpa using h2)
  obtain ⟨e1, e2, e3, e4, e5⟩ := absOper_some hxo
  have ha : ∀ e ∈ x.af, listed.getD e false = true := fun e he => by
   rw [e4] at he
   obtain ⟨ed, h6, rfl⟩ := List.mem_map.1 he
   obtain ⟨h7, h8⟩ := List.mem_filter.1 h6
   exact h3 ed (Array.mem_toList_iff.1 h7) h8
  have hnow := slot_now hal hok hoth hc hx h4 ha
  have hc' : Closed al (listed.setIfInBounds i true) := by
   intro j y hj hl e he
   rw [getD_set h5] at hl ⊢
   split
   ·rfl
   ·split at hl
    ·rename_i ej; subst ej; rw [hx] at hj; cases hj; exact ha e he
    ·exact hc j y hj hl e he
  have hsz' : (listed.setIfInBounds i true).size = ops.size := by simpa using hsz
  have hcnt' : ((List.range ops.size).countP fun j => !(listed.setIfInBounds i true).getD j false) = fuel := by
   have := cnt_less ops.size i (by omega) (fun j => !listed.getD j false) (by simp [h4])
   rw [hcnt] at this
   have e : (fun j => !(listed.setIfInBounds i true).getD j false) = fun j => (!listed.getD j false) && !(j == i) := by
    funext j
    rw [getD_set h5]
    by_cases hj : j = i
    ·simp [hj]
    ·simp [hj]
   rw [e]
   omega
  have hpos' : ∀ j, j < ops.size → (listed.setIfInBounds i true).getD j false = false → 0 < fuel := fun j hj hl => by
   rw [← hcnt', List.countP_pos_iff]
   exact ⟨j, List.mem_range.2 hj, by simp [hl]⟩
  have hst := htr i x hx
  have hax := hat i x hx
  simp only [aokAt, Bool.and_eq_true] at hax
  obtain ⟨hg0, hax⟩ := hax
  have hg : x.g = none := by simpa using hg0
  have hw : Region.wanted o (yielded ops a.tmps) = true := by
   rcases e5 with ⟨e5, e6⟩ | ⟨j, b, d, e5, e6, e7, e8⟩
   ·simp [Region.wanted, e5]
   ·rw [hg] at e8; cases e8
  have hset := frL_set hal hok hoth hx h5
  unfold wpOp
  simp only [h2]
  rw [if_pos hw]
  refine .inl ?_
  have hgn : n0 ≤ g.n := Nat.le_trans hn0 hS.n
  by_cases hij : i = j
  ·-- the new cell
   subst hij
   rw [if_pos rfl, Bool.and_eq_true] at hax
   obtain ⟨hxd, hxa⟩ := hax
   have hxd : x.d = some d := by simpa using hxd
   obtain ⟨z, hxo2, hzn⟩ : ∃ z, x.o = .alloc E z ∧ z.length = n := by
    cases hxo2 : x.o with
    | alloc E' z =>
     rw [hxo2] at hxa
     simp only [isAlloc, Bool.and_eq_true, decide_eq_true_eq] at hxa
     exact ⟨z, by rw [hxa.1], hxa.2⟩
    | _ => rw [hxo2] at hxa; simp [isAlloc] at hxa
   have hR1 : Rel G N ⟨frL al F listed, H0, g.n⟩ g a w := by
    rcases hR with ⟨_, hR⟩ | ⟨hl, _⟩
    ·exact hR
    ·rw [h4] at hl; cases hl
   refine aop_sound' hR1 e2 (K := fun st' => st' = ⟨put (frL al F listed) o.dst (.op g.n 0 0), upd H0 g.n (some ⟨E, n, [z]⟩), g.n + 1⟩) ?_ e3 (by rw [hxo2]; simp only [aop]; rw [hzn])
   rintro st' g' a' w' rfl k1 k2
   have hn' : g.n + 1 = g'.n := k1.n.symm
   refine ih _ _ w' g' hsz' hpos' hcnt' hc' (.inr ⟨by rw [getD_set h5, if_pos rfl], g.n, z, hgn, by omega, hzn, fun h => ?_, ?_⟩) (hS.trans k2)
   ·exfalso
    rw [getD_set h5, if_neg (fun e => hjs e.symm)] at h
    have hss := List.getElem?_eq_getElem hs
    have hb := hat s _ hss
    simp only [aokAt, Bool.and_eq_true, if_neg (fun e => hjs e.symm : ¬ s = i), if_true] at hb
    have := hc s _ hss h i (by simpa using hb.2.2.1)
    rw [h4] at this; cases this
   ·rw [hset, hxd, ← hn']
    rw [← e1, hxd] at k1
    have : upd (put (frL al F listed) (some d) ((some d).map (F (i + 1)) |>.getD .any)) d (.op g.n 0 0) = put (frL al F listed) (some d) (.op g.n 0 0) := by
     funext t
     simp only [put, upd]
     split <;> rfl
    rw [this]
    exact k1
  ·rw [if_neg hij] at hax
   by_cases his : i = s
   ·-- the store
    subst his
    rw [if_pos rfl, Bool.and_eq_true, Bool.and_eq_true] at hax
    obtain ⟨hxd, haf, hxa⟩ := hax
    have hxd : x.d = none := by simpa using hxd
    have hjl : listed.getD j false = true := ha j (by simpa using haf)
    obtain ⟨ag, y, hxo2, hyd⟩ : ∃ ag y, x.o = .store ag n (.t d) y ∧ d ∉ y.slots := by
     cases hxo2 : x.o with
     | store ag n' a' y =>
      rw [hxo2] at hxa
      cases a' with
      | t d' =>
       simp only [isPut, Bool.and_eq_true, decide_eq_true_eq, Bool.not_eq_true', List.contains_eq_mem, decide_eq_false_iff_not] at hxa
       exact ⟨ag, y, by rw [hxa.1.1, hxa.1.2], hxa.2⟩
      | _ => simp [isPut] at hxa
     | _ => rw [hxo2] at hxa; simp [isPut] at hxa
    rcases hR with ⟨hl, _⟩ | ⟨_, m, cells, hm1, hm2, hcn, _, hR1⟩
    ·rw [hjl] at hl; cases hl
    unfold AStep at hst
    rw [hxo2] at hst
    simp only at hst
    obtain ⟨hcs, hF⟩ := hst
    have hev : ev G (upd (frL al F listed) d (.op m 0 0)) y = ev G (F i) y := ev_congr fun t ht => by
     have htd : t ≠ d := fun e => hyd (by rw [← e]; exact ht)
     rw [upd_ne _ _ _ htd]
     exact hnow t (by simp [AOper.slots, hxo2, AOp.slots, ht])
    have hev0 : ev G (upd (frL al F listed) d (.op m 0 0)) (.t d) = .op m 0 0 := by simp [ev, upd]
    have hdst : o.dst = none := by rw [← e1]; exact hxd
    refine aop_sound' hR1 e2 (K := fun st' => st' = ⟨upd (frL al F listed) d (.op m 0 0), upd (upd H0 m (some ⟨E, n, [cells]⟩)) m (some ⟨E, n, [cs]⟩), g.n⟩) ?_ e3 (by
     rw [hxo2]
     simp only [aop, hev0, hdst]
     refine ⟨_, cs, ⟨E, n, [cs]⟩, upd_same _ _ _, by rw [hev]; exact hcs, hcl, hc1, ?_, rfl⟩
     simp only [astore, List.getElem?_cons_zero, Nat.zero_add, hcl, hcn, Nat.le_refl, if_true, List.set_cons_zero, splice, List.take_zero, List.nil_append]
     rw [List.drop_eq_nil_of_le (by omega), List.append_nil])
    rintro st' g' a' w' rfl k1 k2
    have hn' : g.n = g'.n := k1.n.symm
    refine ih _ _ w' g' hsz' hpos' hcnt' hc' (.inr ⟨by rw [getD_set h5, if_neg (Ne.symm hij)]; exact hjl, m, cs, hm1, by omega, hcl, fun _ => rfl, ?_⟩) (hS.trans k2)
    have e6 : upd (upd H0 m (some (⟨E, n, [cells]⟩ : AObj))) m (some ⟨E, n, [cs]⟩) = upd H0 m (some ⟨E, n, [cs]⟩) := by
     funext t
     simp only [upd]
     split <;> rfl
    rw [e6] at k1
    rw [hset, hxd, ← hn']
    exact k1
   ·-- all others
    rw [if_neg his] at hax
    simp only [Bool.and_eq_true, Bool.not_eq_true', List.contains_eq_mem, decide_eq_false_iff_not, beq_eq_false_iff_ne] at hax
    obtain ⟨⟨hns, hnn⟩, hnc, hds, hdd⟩ := hax
    obtain ⟨v, hv, hF⟩ := hst.plain hns hnn hnc
    have hval : (x.d.map (F (i + 1))).getD .any = v ∨ x.d = none := by
     cases hd : x.d with
     | none => exact .inr rfl
     | some d => left; rw [hF, hd]; simp [put, upd_same]
    have hput : put (frL al F listed) x.d ((x.d.map (F (i + 1))).getD .any) = put (frL al F listed) o.dst v := by
     rcases hval with h | h
     ·rw [h, e1]
     ·rw [← e1, h]; rfl
    rcases hR with ⟨hl, hR1⟩ | ⟨hl, m, cells, hm1, hm2, hcn, hcc, hR1⟩
    ·have hd1 : dop P G H0 (frL al F listed) x.o v := dop_congr (fun t ht => (hnow t (by simp [AOper.slots, ht])).symm) (hv H0 (Sub.refl _))
     refine aop_sound' hR1 e2 (K := fun st' => ∃ n', st' = ⟨put (frL al F listed) o.dst v, H0, n'⟩) ?_ e3 (dop_aop (st := ⟨frL al F listed, H0, g.n⟩) hd1 (K := fun _ => True) (fun _ _ => trivial))
     rintro st' g' a' w' ⟨n', rfl⟩ k1 k2
     have hn' : n' = g'.n := k1.n.symm
     subst hn'
     refine ih _ _ w' g' hsz' hpos' hcnt' hc' (.inl ⟨by rw [getD_set h5, if_neg (Ne.symm hij)]; exact hl, ?_⟩) (hS.trans k2)
     rw [hset, hput]
     exact k1
    ·have hd1 : dop P G (upd H0 m (some ⟨E, n, [cells]⟩)) (upd (frL al F listed) d (.op m 0 0)) x.o v := dop_congr (fun t ht => by
      have htd : t ≠ d := fun e => hds (by subst e; simp [AOper.slots, ht])
      rw [upd_ne _ _ _ htd]
      exact (hnow t (by simp [AOper.slots, ht])).symm) (hv _ (hsubm m _ hm1))
     refine aop_sound' hR1 e2 (K := fun st' => ∃ n', st' = ⟨put (upd (frL al F listed) d (.op m 0 0)) o.dst v, upd H0 m (some ⟨E, n, [cells]⟩), n'⟩) ?_ e3 (dop_aop (st := ⟨upd (frL al F listed) d (.op m 0 0), upd H0 m (some ⟨E, n, [cells]⟩), g.n⟩) hd1 (K := fun _ => True) (fun _ _ => trivial))
     rintro st' g' a' w' ⟨n', rfl⟩ k1 k2
     have hn' : n' = g'.n := k1.n.symm
     subst hn'
     refine ih _ _ w' g' hsz' hpos' hcnt' hc' (.inr ⟨by rw [getD_set h5, if_neg (Ne.symm hij)]; exact hl, m, cells, hm1, Nat.lt_of_lt_of_le hm2 k2.n, hcn, fun h => hcc (by rw [getD_set h5, if_neg (Ne.symm his)] at h; exact h), ?_⟩) (hS.trans k2)
     rw [hset, hput]
     have : upd (put (frL al F listed) o.dst v) d (.op m 0 0) = put (upd (frL al F listed) d (.op m 0 0)) o.dst v := by
      rw [← e1]
      cases hd : x.d with
      | none => rfl
      | some q =>
       have hqd : q ≠ d := fun e => hdd (by rw [hd, e])
       funext t
       simp only [put, upd]
       by_cases h1 : t = d
       ·subst h1; simp [Ne.symm hqd]
       ·simp [h1]
     rw [this]
     exact k1
end
end Go.Ab
/-! Drawn regions of which some operations do what they like: the conflicts decide the order. -/
namespace Go.Ab
open Go.RowKit
variable {P : Program} {w w' : World} {g g' : Gh} {G : Nat → AV} {N : Nat} {st : St} {a : Act} {H Hs : Nat → Option AObj}
def isPure : AOp → Bool
 | .mov _ | .pick _ _ _ | .load _ _ _ | .fld _ _ | .part _ _ _ _ | .idx _ _ _ | .idxA _ _ _ _ | .idxV _ _ _ _ _ | .chr _ _ | .bin _ _ _ | .eq _ _ _ _ | .not _ | .neg _ | .cvt _ _ | .same _ | .ext _ _ | .len _ | .lenS _ | .slS _ _ _ | .sl _ _ _ _ | .build _ _ | .box _ _ | .bsl _ _ _ | .mkf _ _ | .nilc _ | .cap _ | .look _ _ _ _ _ | .lenM _ | .ent _ | .bts _ | .sdat _ | .upc _ _ _ | .mm _ _ _ | .mm3 _ _ _ _ => true
 | _ => false
def AOp.fslots : AOp → List Nat
 | .boxo _ _ x | .clear _ _ x | .mclr x | .rng x | .nxt x => x.slots
 | .bslo _ _ _ ps => slotsQ ps
 | .copy _ s x | .app _ _ _ s x | .appz _ _ _ _ s x | .make _ _ _ s x | .ment _ _ s x | .mdel _ s x => s.slots ++ x.slots
 | .mest m s v => m.slots ++ (s.slots ++ v.slots)
 | .apps _ s x | .ustr _ s x => s.slots ++ x.slots
 | o => o.slots
def AOper.fslots (x : AOper) : List Nat := x.o.fslots ++ (match x.g with | some (j, _) => [j] | none => [])
theorem aop_pure {o : AOp} (hp : isPure o = true) {d : Option Nat} {K : St → Prop} : aop P G o d st K ↔ ∃ v, dop P G st.H st.fr o v ∧ K ⟨put st.fr d v, st.H, st.n⟩ := by
 cases o with
 | idx sz x i => exact ⟨fun ⟨h1, v, h2, h3⟩ => ⟨v, ⟨h1, h2⟩, h3⟩, fun ⟨v, ⟨h1, h2⟩, h3⟩ => ⟨h1, v, h2, h3⟩⟩
 | sl sz x lo hi => exact ⟨fun ⟨h1, v, h2, h3⟩ => ⟨v, ⟨h1, h2⟩, h3⟩, fun ⟨v, ⟨h1, h2⟩, h3⟩ => ⟨h1, v, h2, h3⟩⟩
 | _ => first | exact Iff.rfl | (simp [isPure] at hp)
theorem aop_frame {o : AOp} {d : Option Nat} {fr fr' : Nat → AV} {n : Nat} {K K' : St → Prop} (hs : ∀ s ∈ o.fslots, fr s = fr' s) (h : aop P G o d ⟨fr, H, n⟩ K)
  (hK : ∀ v H' n', K ⟨put fr d v, H', n'⟩ → K' ⟨put fr' d v, H', n'⟩) : aop P G o d ⟨fr', H, n⟩ K' := by
 cases hp : isPure o with
 | true =>
  rw [aop_pure hp] at h ⊢
  obtain ⟨v, h1, h2⟩ := h
  refine ⟨v, dop_congr (fun s hs' => hs s ?_) h1, hK _ _ _ h2⟩
  cases o <;> first | exact hs' | (simp [isPure] at hp)
 | false =>
  cases o with
  | alloc E zero => exact hK _ _ _ h
  | boxo E k x =>
   obtain ⟨cs, h1, h2, h3⟩ := h
   exact ⟨cs, by rw [← ev_congr (fr := fr) fun s h => hs s h]; exact h1, h2, hK _ _ _ h3⟩
  | bslo E sz len ps =>
   obtain ⟨rows, h1, h2, h3⟩ := h
   exact ⟨rows, by rw [← evq_congr (fr := fr) fun s h => hs s h]; exact h1, h2, hK _ _ _ h3⟩
  | store ag k x y =>
   simp only [aop] at h ⊢
   rw [← ev_congr (fr := fr) (x := x) fun s h => hs s (by simp [AOp.fslots, AOp.slots, h]), ← ev_congr (fr := fr) (x := y) fun s h => hs s (by simp [AOp.fslots, AOp.slots, h])]
   generalize ev G fr x = z at h ⊢
   cases z with
   | op i r c => obtain ⟨o, cs, o', h1, h2, h3, h4, h5, h6⟩ := h; exact ⟨o, cs, o', h1, h2, h3, h4, h5, hK _ _ _ h6⟩
   | _ => exact h.elim
  | app E sz bytes s x =>
   simp only [aop] at h ⊢
   rw [← ev_congr (fr := fr) (x := s) fun t h => hs t (by simp [AOp.fslots, h]), ← ev_congr (fr := fr) (x := x) fun t h => hs t (by simp [AOp.fslots, h])]
   generalize ev G fr s = z at h ⊢
   generalize srcRows H (ev G fr x) = q at h ⊢
   split at h
   ·obtain ⟨h1, h2, h3, h4⟩ := h
    refine ⟨h1, h2, h3, ?_⟩
    split at h4 <;> exact hK _ _ _ h4
   ·rcases h with ⟨h1, h2⟩ | ⟨o, h1, h2, h3, h4, h5, h6, h7, h8, h9⟩ | ⟨o, h1, h3, h4, h5, h6, h7, h8, h9, h10⟩
    ·exact .inl ⟨h1, hK _ _ _ h2⟩
    ·exact .inr (.inl ⟨o, h1, h2, h3, h4, h5, h6, h7, h8, hK _ _ _ h9⟩)
    ·exact .inr (.inr ⟨o, h1, h3, h4, h5, h6, h7, h8, hK _ _ _ h9, hK _ _ _ h10⟩)
   ·exact h.elim
  | copy sz s x =>
   simp only [aop] at h ⊢
   rw [← ev_congr (fr := fr) (x := s) fun t h => hs t (by simp [AOp.fslots, h]), ← ev_congr (fr := fr) (x := x) fun t h => hs t (by simp [AOp.fslots, h])]
   generalize ev G fr s = z at h ⊢
   generalize srcRows H (ev G fr x) = q at h ⊢
   split at h
   ·obtain ⟨o, h1, h2, h3, h4, h5⟩ := h
    exact ⟨o, h1, h2, h3, h4, hK _ _ _ h5⟩
   ·exact hK _ _ _ h
   ·exact h.elim
  | appz E sz bytes zero s x =>
   simp only [aop] at h ⊢
   rw [← ev_congr (fr := fr) (x := s) fun t h => hs t (by simp [AOp.fslots, h]), ← ev_congr (fr := fr) (x := x) fun t h => hs t (by simp [AOp.fslots, h])]
   generalize ev G fr s = z at h ⊢
   generalize ev G fr x = q at h ⊢
   split at h
   ·obtain ⟨h1, h2, h3, h4⟩ := h
    exact ⟨h1, h2, h3, hK _ _ _ h4⟩
   ·exact h.elim
  | make E bytes zero s x =>
   simp only [aop] at h ⊢
   rw [← ev_congr (fr := fr) (x := s) fun t h => hs t (by simp [AOp.fslots, h]), ← ev_congr (fr := fr) (x := x) fun t h => hs t (by simp [AOp.fslots, h])]
   generalize ev G fr s = z at h ⊢
   generalize ev G fr x = q at h ⊢
   split at h
   ·obtain ⟨h1, h2, h3, h4, h5⟩ := h
    exact ⟨h1, h2, h3, h4, hK _ _ _ h5⟩
   ·exact h.elim
  | clear sz zero x =>
   simp only [aop] at h ⊢
   rw [← ev_congr (fr := fr) (x := x) fun t h => hs t h]
   generalize ev G fr x = z at h ⊢
   cases z with
   | os i off len => obtain ⟨o, h1, h2, h3, h4, h5, h6⟩ := h; exact ⟨o, h1, h2, h3, h4, h5, hK _ _ _ h6⟩
   | _ => exact h.elim
  | call f xs =>
   simp only [aop] at h ⊢
   rw [← evs_congr (fr := fr) fun t h => hs t h]
   exact h.mono fun r H' n' hh => hK _ _ _ hh
  | callv x xs =>
   simp only [aop] at h ⊢
   rw [← ev_congr (fr := fr) (x := x) fun t h => hs t (by simp [AOp.fslots, AOp.slots, h]), ← evs_congr (fr := fr) (xs := xs) fun t h => hs t (by simp [AOp.fslots, AOp.slots, h])]
   generalize ev G fr x = z at h ⊢
   split at h
   ·exact ACalls.mono h fun r H' n' hh => hK _ _ _ hh
   ·exact h.elim
  | mkm E kc => exact hK _ _ _ h
  | mset kc m k v =>
   simp only [aop] at h ⊢
   rw [← ev_congr (fr := fr) (x := m) fun t h => hs t (by simp [AOp.fslots, AOp.slots, h]), ← ev_congr (fr := fr) (x := k) fun t h => hs t (by simp [AOp.fslots, AOp.slots, h]), ← ev_congr (fr := fr) (x := v) fun t h => hs t (by simp [AOp.fslots, AOp.slots, h])]
   generalize ev G fr m = z at h ⊢
   cases z with
   | om i => obtain ⟨o, h1, h2, h3, h4⟩ := h; exact ⟨o, h1, h2, h3, hK _ _ _ h4⟩
   | _ => exact h.elim
  | ment kc zero m k =>
   simp only [aop] at h ⊢
   rw [← ev_congr (fr := fr) (x := m) fun t h => hs t (by simp [AOp.fslots, h]), ← ev_congr (fr := fr) (x := k) fun t h => hs t (by simp [AOp.fslots, h])]
   generalize ev G fr m = z at h ⊢
   cases z with
   | om i => obtain ⟨o, h1, h2, h3, h4, h5⟩ := h; exact ⟨o, h1, h2, h3, h4, hK _ _ _ h5⟩
   | _ => exact h.elim
  | mest m s v =>
   simp only [aop] at h ⊢
   rw [← ev_congr (fr := fr) (x := m) fun t h => hs t (by simp [AOp.fslots, h]), ← ev_congr (fr := fr) (x := s) fun t h => hs t (by simp [AOp.fslots, h]), ← ev_congr (fr := fr) (x := v) fun t h => hs t (by simp [AOp.fslots, h])]
   generalize ev G fr m = z at h ⊢
   generalize ev G fr s = q at h ⊢
   split at h
   ·obtain ⟨h0, o, key, old, h1, h2, h3, h4⟩ := h
    exact ⟨h0, o, key, old, h1, h2, h3, hK _ _ _ h4⟩
   ·exact h.elim
  | mdel kc m k =>
   simp only [aop] at h ⊢
   rw [← ev_congr (fr := fr) (x := m) fun t h => hs t (by simp [AOp.fslots, h]), ← ev_congr (fr := fr) (x := k) fun t h => hs t (by simp [AOp.fslots, h])]
   generalize ev G fr m = z at h ⊢
   cases z with
   | om i => obtain ⟨o, h1, h2, h3, h4, h5⟩ := h; exact ⟨o, h1, h2, h3, h4, hK _ _ _ h5⟩
   | _ => exact h.elim
  | mclr m =>
   simp only [aop] at h ⊢
   rw [← ev_congr (fr := fr) (x := m) fun t h => hs t h]
   generalize ev G fr m = z at h ⊢
   cases z with
   | om i => obtain ⟨o, h1, h2, h3⟩ := h; exact ⟨o, h1, h2, hK _ _ _ h3⟩
   | _ => exact h.elim
  | rng m =>
   simp only [aop] at h ⊢
   rw [← ev_congr (fr := fr) (x := m) fun t h => hs t h]
   generalize ev G fr m = z at h ⊢
   cases z with
   | om i => obtain ⟨o, h1, h2, h3⟩ := h; exact ⟨o, h1, h2, hK _ _ _ h3⟩
   | _ => exact h.elim
  | nxt m =>
   simp only [aop] at h ⊢
   rw [← ev_congr (fr := fr) (x := m) fun t h => hs t h]
   generalize ev G fr m = z at h ⊢
   cases z with
   | oit j =>
    obtain ⟨o, om, k0, idxs, h1, h2, h3, h4, h5, h6⟩ := h
    exact ⟨o, om, k0, idxs, h1, h2, h3, h4, fun e => hK _ _ _ (h5 e), fun k hk x y hxy => hK _ _ _ (h6 k hk x y hxy)⟩
   | _ => exact h.elim
  | apps E s x =>
   simp only [aop] at h ⊢
   rw [← ev_congr (fr := fr) (x := s) fun t h => hs t (by simp [AOp.fslots, h]), ← ev_congr (fr := fr) (x := x) fun t h => hs t (by simp [AOp.fslots, h])]
   generalize ev G fr s = z at h ⊢
   generalize ev G fr x = q at h ⊢
   split at h
   ·exact ⟨h.1, fun e => hK _ _ _ (h.2.1 e), fun e => hK _ _ _ (h.2.2 e)⟩
   ·obtain ⟨o, h1, h2, h3, h4, h5, h6, h7, h8⟩ := h
    exact ⟨o, h1, h2, h3, h4, h5, h6, h7, hK _ _ _ h8⟩
   ·exact h.elim
  | ustr E s x =>
   simp only [aop] at h ⊢
   rw [← ev_congr (fr := fr) (x := s) fun t h => hs t (by simp [AOp.fslots, h]), ← ev_congr (fr := fr) (x := x) fun t h => hs t (by simp [AOp.fslots, h])]
   generalize ev G fr s = z at h ⊢
   generalize ev G fr x = q at h ⊢
   split at h
   ·exact hK _ _ _ h
   ·obtain ⟨o, l, h1, h2, h3, h4, h5, h6, h7, h8⟩ := h
    exact ⟨o, l, h1, h2, h3, h4, h5, h6, h7, hK _ _ _ h8⟩
   ·exact h.elim
  | bad => obtain ⟨v, h1, _⟩ := h; simp [aval] at h1
  | _ => simp [isPure] at hp
def gmode (x : AOper) (fr : Nat → AV) : Option Bool := match x.g with
 | none => some true
 | some (j, want) => match fr j with
  | .lit (.bool b) => some (b == want)
  | .lit (.tuple _) => some false
  | _ => none
theorem gmode_congr {x : AOper} {fr fr' : Nat → AV} (hs : ∀ s ∈ x.fslots, fr s = fr' s) : gmode x fr = gmode x fr' := by
 unfold gmode
 cases hg : x.g with
 | none => rfl
 | some q =>
  obtain ⟨j, want⟩ := q
  have : fr j = fr' j := hs j (by simp [AOper.fslots, hg])
  simp only [this]
def hF (Hs : Nat → Option AObj) (f : Bool) (H : Nat → Option AObj) : Nat → Option AObj := bif f then Hs else H
theorem upd_self {α : Type} {fr : Nat → α} {j : Nat} {v : α} (h : fr j = v) : upd fr j v = fr := by
 funext i
 unfold upd
 split
 ·rename_i e; rw [e, h]
 ·rfl
theorem nop_iff {f : Bool} {x : AOper} {K : St → Prop} : nop P G Hs f x st K ↔ match gmode x st.fr with
  | some true => aop P G x.o x.d ⟨st.fr, hF Hs f st.H, st.n⟩ fun st' => Sub Hs (bif f then st.H else st'.H) ∧ K ⟨st'.fr, bif f then st.H else st'.H, st'.n⟩
  | some false => Sub Hs st.H ∧ K ⟨put st.fr x.d .und, st.H, st.n⟩
  | none => False := by
 obtain ⟨d, o, gg, af⟩ := x
 cases gg with
 | none => exact Iff.rfl
 | some q =>
  obtain ⟨j, want⟩ := q
  have e0 : (bif f then st.H else hF Hs f st.H) = st.H := by cases f <;> rfl
  simp only [nop, aops, gmode]
  cases hj : st.fr j with
  | lit v =>
   cases v with
   | bool b =>
    show (b = want → _) ∧ (b = !want → _) ↔ _
    by_cases hbw : b = want
    ·subst hbw
     have e1 : upd st.fr j (.lit (.bool b)) = st.fr := upd_self hj
     have e2 : (b == b) = true := by simp
     rw [e1]
     simp only [e2]
     exact ⟨fun h => h.1 trivial, fun h => ⟨fun _ => h, fun e => by cases b <;> cases e⟩⟩
    ·have hb2 : b = !want := by cases b <;> cases want <;> first | rfl | exact absurd rfl hbw
     have e1 : upd st.fr j (.lit (.bool (!want))) = st.fr := upd_self (by rw [← hb2]; exact hj)
     have e2 : (b == want) = false := by simpa using hbw
     rw [e1]
     simp only [e2]
     rw [show (bif f then Hs else st.H) = hF Hs f st.H from rfl, e0]
     exact ⟨fun h => h.2 hb2, fun h => ⟨fun e => absurd e hbw, fun _ => h⟩⟩
   | tuple vs =>
    simp only
    rw [show (bif f then Hs else st.H) = hF Hs f st.H from rfl, e0]
   | _ => exact Iff.rfl
  | _ => exact Iff.rfl
theorem nop_frame {f : Bool} {x : AOper} {fr fr' : Nat → AV} {n : Nat} {K K' : St → Prop} (hs : ∀ s ∈ x.fslots, fr s = fr' s) (h : nop P G Hs f x ⟨fr, H, n⟩ K)
  (hK : ∀ v H' n', Sub Hs H' → K ⟨put fr x.d v, H', n'⟩ → K' ⟨put fr' x.d v, H', n'⟩) : nop P G Hs f x ⟨fr', H, n⟩ K' := by
 rw [nop_iff] at h ⊢
 dsimp only at h ⊢
 rw [← gmode_congr hs]
 split at h
 ·exact aop_frame (fun s hs' => hs s (by simp [AOper.fslots, hs'])) h fun v H' n' hh => ⟨hh.1, hK v _ n' hh.1 hh.2⟩
 ·exact ⟨h.1, hK _ _ _ h.1 h.2⟩
 ·exact h.elim
def PV (P : Program) (G : Nat → AV) (Hs : Nat → Option AObj) (f : Bool) (x : AOper) (H : Nat → Option AObj) (fr : Nat → AV) (v : AV) : Prop := match gmode x fr with
 | some true => dop P G (hF Hs f H) fr x.o v
 | some false => v = .und
 | none => False
theorem nop_pure {f : Bool} {x : AOper} (hp : isPure x.o = true) {K : St → Prop} : nop P G Hs f x st K ↔ ∃ v, PV P G Hs f x st.H st.fr v ∧ (Sub Hs st.H ∧ K ⟨put st.fr x.d v, st.H, st.n⟩) := by
 have e0 : (bif f then st.H else hF Hs f st.H) = st.H := by cases f <;> rfl
 rw [nop_iff]
 unfold PV
 cases gmode x st.fr with
 | none => exact ⟨fun h => h.elim, fun ⟨_, h, _⟩ => h.elim⟩
 | some b =>
  cases b with
  | true => simp only; rw [aop_pure hp]; simp only [e0]
  | false => exact ⟨fun h => ⟨_, rfl, h⟩, fun ⟨_, e, h⟩ => by rw [e] at h; exact h⟩
theorem PV.congr {f : Bool} {x : AOper} (hp : isPure x.o = true) {H' : Nat → Option AObj} {fr fr' : Nat → AV} {v : AV} (hH : hF Hs f H = hF Hs f H') (hs : ∀ s ∈ x.fslots, fr s = fr' s) (h : PV P G Hs f x H fr v) : PV P G Hs f x H' fr' v := by
 unfold PV at h ⊢
 rw [← gmode_congr hs, ← hH]
 split at h
 ·rename_i hm
  refine dop_congr (fun s hs' => hs s ?_) h
  have : s ∈ x.o.fslots := by
   obtain ⟨d, o, gg, af⟩ := x
   cases o <;> first | exact hs' | (simp [isPure] at hp)
  simp [AOper.fslots, this]
 ·exact h
 ·exact h.elim
theorem put_ne {fr : Nat → AV} {d : Option Nat} {v : AV} {s : Nat} (h : d ≠ some s) : put fr d v s = fr s := by
 cases d with
 | none => rfl
 | some d => exact upd_ne _ _ _ (fun e => h (by rw [e]))
theorem put_comm {fr : Nat → AV} {d e : Option Nat} {u v : AV} (h : ∀ k, d = some k → e ≠ some k) : put (put fr d u) e v = put (put fr e v) d u := by
 cases d with
 | none => rfl
 | some d =>
  cases e with
  | none => rfl
  | some e =>
   have hne : e ≠ d := fun hh => h d rfl (by rw [hh])
   funext s
   simp only [put, upd]
   by_cases h1 : s = e
   ·subst h1; simp [hne]
   ·simp [h1]
theorem nop_swap {fp fx : Bool} {p x : AOper} {K : St → Prop} (hp : isPure p.o = true) (hx : isPure x.o = true ∨ fp = true) (h1 : ∀ s ∈ x.fslots, p.d ≠ some s) (h2 : ∀ s ∈ p.fslots, x.d ≠ some s) (h3 : ∀ k, p.d = some k → x.d ≠ some k)
  (h : nop P G Hs fp p st fun st1 => nop P G Hs fx x st1 K) : nop P G Hs fx x st fun st1 => nop P G Hs fp p st1 K := by
 rw [nop_pure hp] at h
 obtain ⟨v, h4, hsub, h5⟩ := h
 cases hxp : isPure x.o with
 | true =>
  rw [nop_pure hxp] at h5 ⊢
  obtain ⟨u, h6, hs2, h7⟩ := h5
  refine ⟨u, h6.congr hxp rfl (fun s hs => put_ne (h1 s hs)), hsub, ?_⟩
  rw [nop_pure hp]
  refine ⟨v, h4.congr hp rfl (fun s hs => (put_ne (h2 s hs)).symm), hsub, ?_⟩
  simp only at h7 ⊢
  rw [← put_comm h3]
  exact h7
 | false =>
  have hf := hx.resolve_left (by rw [hxp]; decide)
  subst hf
  refine nop_frame (fr := put st.fr p.d v) (fun s hs => put_ne (h1 s hs)) h5 fun u H' n' hs' hK => ?_
  rw [nop_pure hp]
  refine ⟨v, h4.congr hp rfl (fun s hs => (put_ne (h2 s hs)).symm), hs', ?_⟩
  simp only
  rw [← put_comm h3]
  exact hK
theorem nop_mono {f : Bool} {x : AOper} {K K' : St → Prop} (h : nop P G Hs f x st K) (hK : ∀ st, K st → K' st) : nop P G Hs f x st K' :=
 nop_frame (fr := st.fr) (fr' := st.fr) (fun _ _ => rfl) h fun _ _ _ _ hh => hK _ hh
theorem hoist {fx : Bool} {x : AOper} {K : St → Prop} {post : List (Bool × AOper)} : ∀ (pre : List (Bool × AOper)) (st : St),
  (∀ q ∈ pre, isPure q.2.o = true ∧ (isPure x.o = true ∨ q.1 = true) ∧ (∀ s ∈ x.fslots, q.2.d ≠ some s) ∧ (∀ s ∈ q.2.fslots, x.d ≠ some s) ∧ (∀ k, q.2.d = some k → x.d ≠ some k)) →
  naops P G Hs (pre ++ (fx, x) :: post) st K → nop P G Hs fx x st fun st' => naops P G Hs (pre ++ post) st' K
 | [], st, _, h => h
 | (fp, p) :: pre, st, hc, h => by
  obtain ⟨c1, c2, c3, c4, c5⟩ := hc (fp, p) (by simp)
  refine nop_swap c1 c2 c3 c4 c5 ?_
  exact nop_mono h fun st1 h1 => hoist pre st1 (fun q hq => hc q (by simp [hq])) h1
/-! The check. -/
def pairOk (al : List AOper) (bs : List Nat) (p q : Bool × Nat) : Bool :=
 let x := al.getD p.2 default
 let y := al.getD q.2 default
 (bs.getD q.2 0).testBit p.2 ||
  (isPure x.o && (isPure y.o || p.1) && (match x.d with
   | some d => !y.fslots.contains d && y.d != some d
   | none => true) && (match y.d with
   | some d => !x.fslots.contains d
   | none => true))
def pairsOk (al : List AOper) (bs : List Nat) : List (Bool × Nat) → Bool
 | [] => true
 | p :: l => l.all (fun q => pairOk al bs p q && p.2 != q.2) && (!p.1 || isPure (al.getD p.2 default).o) && pairsOk al bs l
def beforeOk : Nat → List AOper → Bool
 | _, [] => true
 | i, x :: xs => x.af.all (fun e => decide (e < i)) && beforeOk (i + 1) xs
def nok (al : List AOper) (cl : List (Bool × Nat)) : Bool :=
 beforeOk 0 al && cl.all (fun p => decide (p.2 < al.length)) && (List.range al.length).all (fun i => cl.any fun p => p.2 == i) && pairsOk al (befs [] al) cl
def canonGo (al : List AOper) : Nat → List Nat → List Nat
 | 0, done => done
 | k + 1, done =>
  let rdy := fun i => !done.contains i && ((al.getD i default).af.all fun e => done.contains e)
  match (List.range al.length).find? (fun i => rdy i && isPure (al.getD i default).o) with
  | some i => canonGo al k (done ++ [i])
  | none => match (List.range al.length).find? rdy with
   | some i => canonGo al k (done ++ [i])
   | none => done
def isFree (al : List AOper) (bs : List Nat) (i : Nat) : Bool :=
 isPure (al.getD i default).o && al.zipIdx.any fun (y, j) => !isPure y.o && !(bs.getD i 0).testBit j && !(bs.getD j 0).testBit i
def canon (al : List AOper) : List (Bool × Nat) :=
 let bs := befs [] al
 (canonGo al al.length []).map fun i => (isFree al bs i, i)
def nlist (al : List AOper) (cl : List (Bool × Nat)) : List (Bool × AOper) := cl.map fun p => (p.1, al.getD p.2 default)
theorem beforeOk_spec : ∀ (xs : List AOper) (k : Nat), beforeOk k xs = true → ∀ (i : Nat) (x : AOper), xs[i]? = some x → ∀ e ∈ x.af, e < k + i
 | [], k, _, i, x, hx => by simp at hx
 | y :: xs, k, h, i, x, hx => by
  simp only [beforeOk, Bool.and_eq_true] at h
  cases i with
  | zero => simp at hx; subst hx; exact fun e he => by simpa using List.all_eq_true.1 h.1 e he
  | succ i =>
   have := beforeOk_spec xs (k + 1) h.2 i x (by simpa using hx)
   rwa [show k + 1 + i = k + (i + 1) from by omega] at this
theorem pairsOk_spec {al : List AOper} {bs : List Nat} : ∀ (pre : List (Bool × Nat)) {q : Bool × Nat} {post : List (Bool × Nat)}, pairsOk al bs (pre ++ q :: post) = true →
  (∀ p ∈ pre, pairOk al bs p q = true ∧ p.2 ≠ q.2) ∧ (∀ p ∈ post, p.2 ≠ q.2) ∧ (q.1 = true → isPure (al.getD q.2 default).o = true)
 | [], q, post, h => by
  simp only [List.nil_append, pairsOk, Bool.and_eq_true, List.all_eq_true] at h
  refine ⟨fun p hp => by simp at hp, fun p hp => ?_, fun hq => ?_⟩
  ·have := (h.1.1 p hp).2
   intro e; simp [e] at this
  ·have := h.1.2; simpa [hq] using this
 | p0 :: pre, q, post, h => by
  simp only [List.cons_append, pairsOk, Bool.and_eq_true, List.all_eq_true] at h
  obtain ⟨⟨h1, h2⟩, h3⟩ := h
  obtain ⟨k1, k2, k3⟩ := pairsOk_spec pre h3
  refine ⟨fun p hp => ?_, k2, k3⟩
  rcases List.mem_cons.1 hp with rfl | hp
  ·have := h1 q (by simp)
   exact ⟨this.1, by have := this.2; simpa using this⟩
  ·exact k1 p hp
section
variable {own : List Nat} {ops : Array Oper} {al : List AOper} {cl : List (Bool × Nat)} {Q : Exit → Act → World → Prop} {w0 : World} {g0 : Gh} {K : St → Prop}
def rest (al : List AOper) (cl : List (Bool × Nat)) (listed : Array Bool) : List (Bool × AOper) := nlist al (cl.filter fun p => !listed.getD p.2 false)
theorem filter_split {α : Type} (p : α → Bool) : ∀ {l pre post : List α} {x : α}, l.filter p = pre ++ x :: post → ∃ a b, l = a ++ x :: b ∧ a.filter p = pre ∧ b.filter p = post
 | [], pre, post, x, h => by simp at h
 | y :: l, pre, post, x, h => by
  by_cases hy : p y = true
  ·rw [List.filter_cons_of_pos hy] at h
   cases pre with
   | nil =>
    simp only [List.nil_append, List.cons.injEq] at h
    exact ⟨[], l, by rw [h.1]; rfl, rfl, h.2⟩
   | cons z pre =>
    simp only [List.cons_append, List.cons.injEq] at h
    obtain ⟨a, b, h1, h2, h3⟩ := filter_split p h.2
    exact ⟨y :: a, b, by rw [h1]; rfl, by rw [List.filter_cons_of_pos hy, h2, h.1], h3⟩
  ·rw [List.filter_cons_of_neg hy] at h
   obtain ⟨a, b, h1, h2, h3⟩ := filter_split p h
   exact ⟨y :: a, b, by rw [h1]; rfl, by rw [List.filter_cons_of_neg hy, h2], h3⟩
theorem nready_nil (hal : absOpers P N own ops ops.toList = some al) (hb : beforeOk 0 al = true) {listed : Array Bool} (hsz : listed.size = ops.size) (h : Region.ready .any ops listed = []) : ∀ i, i < ops.size → listed.getD i false = true := by
 intro i
 induction i using Nat.strongRecOn with
 | _ i ih =>
  intro hi
  cases hl : listed.getD i false with
  | true => rfl
  | false =>
   exfalso
   obtain ⟨x, hx, hxo⟩ := (absOpers_get hal).2 i ops[i] (by simp [hi])
   have hxa := (absOper_some hxo).2.2.2.1
   have : i ∈ Region.ready .any ops listed := by
    rw [mem_ready]
    refine ⟨by simpa [Array.getD_eq_getD_getElem?, hsz, hi] using hl, ops[i], by simp [hi], fun e he hb' => ?_⟩
    have hea : e.on ∈ x.af := by
     rw [hxa]
     exact List.mem_map.2 ⟨e, List.mem_filter.2 ⟨Array.mem_toList_iff.2 he, hb'⟩, rfl⟩
    have hlt := beforeOk_spec al 0 hb i x hx _ hea
    exact ih e.on (by omega) (by omega)
   rw [h] at this
   cases this
theorem nop_sound {o : Oper} {x : AOper} {f : Bool} {K1 : St → Prop} {next : Act → World → Prop} (hR : Rel G N st g a w) (hxo : absOper P N own ops o = some x) (hf : f = true → isPure x.o = true) (hsub : Sub Hs st.H) (h : nop P G Hs f x st K1)
  (hn : ∀ st' g' a' w', Sub Hs st'.H → K1 st' → Rel G N st' g' a' w' → Step w g w' g' → next a' w') :
  if Region.wanted o (yielded ops a.tmps) = true then o.wp P a w next Q ∨ (o.asks P a w ∧ LetsOut Q) else next (a.put o.dst undef) w := by
 obtain ⟨e1, e2, e3, e4, e5⟩ := absOper_some hxo
 rw [nop_iff] at h
 have go : aop P G x.o x.d ⟨st.fr, hF Hs f st.H, st.n⟩ (fun st' => Sub Hs (bif f then st.H else st'.H) ∧ K1 ⟨st'.fr, bif f then st.H else st'.H, st'.n⟩) → o.wp P a w next Q := fun h => by
  cases f with
  | false =>
   rw [e1] at h
   exact aop_sound' hR e2 (K := fun st' => Sub Hs st'.H ∧ K1 st') (fun st' g' a' w' k1 k2 k3 => hn st' g' a' w' k1.1 k1.2 k2 k3) e3 h
  | true =>
   have hp := hf rfl
   rw [aop_pure hp] at h
   obtain ⟨v, h1, h2⟩ := h
   have hc : isCall x.o = false := by
    cases hxx : x.o <;> first | rfl | (rw [hxx] at hp; simp [isPure] at hp)
   have h1' : dop P G st.H st.fr x.o v := dop_sub hsub hc h1
   refine aop_sound' hR e2 (K := fun st' => Sub Hs st'.H ∧ K1 st') (fun st' g' a' w' k1 k2 k3 => hn st' g' a' w' k1.1 k1.2 k2 k3) e3 ?_
   rw [aop_pure hp, ← e1]
   exact ⟨v, h1', h2⟩
 have skip : Sub Hs st.H ∧ K1 ⟨put st.fr x.d .und, st.H, st.n⟩ → next (a.put o.dst undef) w := fun h => by
  have hR2 := hR.put (Step.refl w g) hR.inv e2 (x := .und) (v := undef) rfl
  rw [hR.H, hR.n] at hR2
  rw [e1] at h
  exact hn ⟨put st.fr o.dst .und, st.H, st.n⟩ g _ w h.1 h.2 hR2 (Step.refl _ _)
 rcases e5 with ⟨e5, e6⟩ | ⟨j, b, d, e5, e6, e7, e8⟩
 ·simp only [gmode, e6] at h
  rw [if_pos (by simp [Region.wanted, e5])]
  exact .inl (go h)
 ·simp only [gmode, e8] at h
  cases hd : st.fr d with
  | lit v =>
   cases v with
   | bool c =>
    rw [hd] at h
    rw [wanted_of hR e5 e6 e7 hd]
    cases hcb : (c == b) with
    | true => rw [if_pos rfl]; simp only [hcb] at h; exact .inl (go h)
    | false => rw [if_neg (by decide)]; simp only [hcb] at h; exact skip h
   | tuple vs =>
    rw [hd] at h
    rw [wanted_of_tuple hR e5 e6 e7 hd, if_neg (by decide)]
    exact skip h
   | _ => rw [hd] at h; exact h.elim
  | _ => rw [hd] at h; exact h.elim
theorem nany (hal : absOpers P N own ops ops.toList = some al) (hok : nok al cl = true)
  (hQ : ∀ st a w g, K st → Rel G N st g a w → Step w0 g0 w g → Q .normal a w) :
  ∀ (fuel : Nat) (listed : Array Bool) (st : St) (a : Act) (w : World) (g : Gh), listed.size = ops.size → (∀ i, i < ops.size → listed.getD i false = false → 0 < fuel) → ((List.range ops.size).countP fun i => !listed.getD i false) = fuel → Closed al listed →
   Sub Hs st.H → naops P G Hs (rest al cl listed) st K → Rel G N st g a w → Step w0 g0 w g → wpAny P .any ops Q fuel listed a w := by
 simp only [nok, Bool.and_eq_true] at hok
 obtain ⟨⟨⟨hb, hrg⟩, hcov⟩, hpr⟩ := hok
 have hlen : al.length = ops.size := by simpa using (absOpers_get hal).1
 have hrng : ∀ p ∈ cl, p.2 < ops.size := fun p hp => by rw [← hlen]; simpa using List.all_eq_true.1 hrg p hp
 have fin : ∀ (listed : Array Bool) (st : St) (a : Act) (w : World) (g : Gh), (∀ i, i < ops.size → listed.getD i false = true) → naops P G Hs (rest al cl listed) st K → Rel G N st g a w → Step w0 g0 w g → Q .normal a w := fun listed st a w g h1 h2 h3 h4 => by
  have : cl.filter (fun p => !listed.getD p.2 false) = [] := by
   rw [List.filter_eq_nil_iff]
   intro p hp
   simp only [h1 p.2 (hrng p hp), Bool.not_true, Bool.false_eq_true, not_false_eq_true]
  rw [rest, this] at h2
  exact hQ st a w g h2 h3 h4
 intro fuel
 induction fuel with
 | zero =>
  intro listed st a w g hsz hpos hcnt hc hsub h hR hS
  have hall : ∀ i, i < ops.size → listed.getD i false = true := fun i hi => by
   cases h : listed.getD i false with
   | true => rfl
   | false => have := hpos i hi h; omega
  refine ⟨?_, fin listed st a w g hall h hR hS⟩
  rw [List.eq_nil_iff_forall_not_mem]
  intro i hi
  obtain ⟨h1, o, h2, _⟩ := mem_ready.1 hi
  have := getD_tf h1
  rw [hall i (by rw [← hsz]; exact this.2)] at this
  cases this.1
 | succ fuel ih =>
  intro listed st a w g hsz hpos hcnt hc hsub h hR hS
  refine ⟨fun hn => fin listed st a w g (nready_nil hal hb hsz hn) h hR hS, fun i hi => ?_⟩
  obtain ⟨h1, o, h2, h3⟩ := mem_ready.1 hi
  obtain ⟨h4, h5⟩ := getD_tf h1
  obtain ⟨x, hx, hxo⟩ := (absOpers_get hal).2 i o (by simpa using h2)
  have e4 := (absOper_some hxo).2.2.2.1
  have ha : ∀ e ∈ x.af, listed.getD e false = true := fun e he => by
   rw [e4] at he
   obtain ⟨ed, h6, rfl⟩ := List.mem_map.1 he
   obtain ⟨h7, h8⟩ := List.mem_filter.1 h6
   exact h3 ed (Array.mem_toList_iff.1 h7) h8
  have hc' : Closed al (listed.setIfInBounds i true) := by
   intro j y hj hl e he
   rw [getD_set h5] at hl ⊢
   split
   ·rfl
   ·split at hl
    ·rename_i ej; subst ej; rw [hx] at hj; cases hj; exact ha e he
    ·exact hc j y hj hl e he
  have hsz' : (listed.setIfInBounds i true).size = ops.size := by simpa using hsz
  have hcnt' : ((List.range ops.size).countP fun j => !(listed.setIfInBounds i true).getD j false) = fuel := by
   have := cnt_less ops.size i (by omega) (fun j => !listed.getD j false) (by simp [h4])
   rw [hcnt] at this
   have e : (fun j => !(listed.setIfInBounds i true).getD j false) = fun j => (!listed.getD j false) && !(j == i) := by
    funext j
    rw [getD_set h5]
    by_cases hj : j = i
    ·simp [hj]
    ·simp [hj]
   rw [e]
   omega
  have hpos' : ∀ j, j < ops.size → (listed.setIfInBounds i true).getD j false = false → 0 < fuel := fun j hj hl => by
   rw [← hcnt', List.countP_pos_iff]
   exact ⟨j, List.mem_range.2 hj, by simp [hl]⟩
  -- where it stands among those still to come
  obtain ⟨q, hq, hqi⟩ := List.any_eq_true.1 (List.all_eq_true.1 hcov i (List.mem_range.2 (by omega)))
  have hqi : q.2 = i := by simpa using hqi
  have hqf : q ∈ cl.filter (fun p => !listed.getD p.2 false) := List.mem_filter.2 ⟨hq, by rw [hqi, h4]; rfl⟩
  obtain ⟨pre, post, hsp⟩ := List.append_of_mem hqf
  obtain ⟨ca, cb, hcl, hpa, hpb⟩ := filter_split _ hsp
  rw [hcl] at hpr
  obtain ⟨p1, p2, p3⟩ := pairsOk_spec ca hpr
  have hgd : al.getD q.2 default = x := by rw [hqi, List.getD_eq_getElem?_getD, hx]; rfl
  have hrest' : rest al cl (listed.setIfInBounds i true) = nlist al (pre ++ post) := by
   have e : ∀ p : Bool × Nat, (!(listed.setIfInBounds i true).getD p.2 false) = ((!listed.getD p.2 false) && !(p.2 == i)) := fun p => by
    rw [getD_set h5]
    by_cases hj : p.2 = i
    ·simp [hj]
    ·simp [hj]
   have keep : ∀ l : List (Bool × Nat), (∀ p ∈ l, p.2 ≠ q.2) → l.filter (fun p => !(listed.setIfInBounds i true).getD p.2 false) = l.filter (fun p => !listed.getD p.2 false) := fun l hl => by
    refine List.filter_congr fun p hp => ?_
    rw [e]
    have := hl p hp
    rw [hqi] at this
    simp [this]
   rw [rest, hcl, List.filter_append, List.filter_cons_of_neg (by rw [e, hqi]; simp), keep ca (fun p hp => (p1 p hp).2), keep cb p2, hpa, hpb]
  rw [rest, hsp] at h
  simp only [nlist, List.map_append, List.map_cons, hgd] at h
  have hh := hoist (pre.map fun p => (p.1, al.getD p.2 default)) st (fun y hy => by
   obtain ⟨p, hp, rfl⟩ := List.mem_map.1 hy
   have hpl : p ∈ cl.filter (fun p => !listed.getD p.2 false) := by rw [hsp]; simp [hp]
   have hpn : listed.getD p.2 false = false := by simpa using (List.mem_filter.1 hpl).2
   have hpc : p ∈ ca := by rw [← hpa] at hp; exact (List.mem_filter.1 hp).1
   obtain ⟨k1, k2⟩ := p1 p hpc
   simp only [pairOk, hgd, Bool.or_eq_true] at k1
   rcases k1 with k1 | k1
   ·exfalso
    rw [hqi] at k1
    have := Reach.first hc hx (befs_sound al al [] (fun k => by simp) (fun i j hij => by simp at hij) _ _ k1) ha
    rw [hpn] at this
    cases this
   ·simp only [Bool.and_eq_true, Bool.or_eq_true] at k1
    obtain ⟨⟨⟨c1, c2⟩, c3⟩, c4⟩ := k1
    refine ⟨c1, c2, fun s hs e => ?_, fun s hs e => ?_, fun k e e' => ?_⟩
    ·simp only at e
     rw [e] at c3
     simp [hs] at c3
    ·rw [e] at c4
     simp only [Bool.not_eq_true', List.contains_eq_mem, decide_eq_false_iff_not] at c4
     exact c4 hs
    ·simp only at e
     rw [e] at c3
     simp [e'] at c3) h
  unfold wpOp
  simp only [h2]
  have hf : q.1 = true → isPure x.o = true := by rw [← hgd]; exact p3
  refine nop_sound hR hxo hf hsub hh fun st' g' a' w' k0 k1 k2 k3 => ?_
  refine ih _ st' a' w' g' hsz' hpos' hcnt' hc' k0 ?_ k2 (hS.trans k3)
  rw [hrest', nlist, List.map_append]
  exact k1
end
end Go.Ab
/-! Drawn regions with one operation that may come anywhere among the others. -/
namespace Go.Ab
open Go.RowKit
variable {P : Program} {w w' : World} {g g' : Gh} {G : Nat → AV} {N : Nat} {st : St} {a : Act} {H Hs : Nat → Option AObj}
def SwapOk (p x : AOper) (fp : Bool) : Prop := isPure p.o = true ∧ (isPure x.o = true ∨ fp = true) ∧ (∀ s ∈ x.fslots, p.d ≠ some s) ∧ (∀ s ∈ p.fslots, x.d ≠ some s) ∧ (∀ k, p.d = some k → x.d ≠ some k)
theorem fa_now {x : AOper} {K : St → Prop} : ∀ (L : List (Nat × Bool × AOper)) (st : St), (∀ q ∈ L, q.1 = 0 → SwapOk q.2.2 x q.2.1) → faops P G Hs x L st K → nop P G Hs false x st fun st' => naops P G Hs (L.map (·.2)) st' K
 | [], st, _, h => h
 | (t, f, y) :: l, st, hc, h => by
  rw [faops] at h
  split at h
  ·rename_i h0
   obtain ⟨c1, c2, c3, c4, c5⟩ := hc (t, f, y) (by simp) h0
   refine nop_swap (p := y) (x := x) c1 c2 c3 c4 c5 ?_
   exact nop_mono h fun st1 h1 => fa_now l st1 (fun q hq => hc q (by simp [hq])) h1
  split at h
  ·exact h.1
  ·exact h
theorem fa_hoist {x y : AOper} {t : Nat} {fy : Bool} (ht : t = 0 ∨ t = 1) {K : St → Prop} {post : List (Nat × Bool × AOper)} : ∀ (pre : List (Nat × Bool × AOper)) (st : St),
  (∀ q ∈ pre, q.1 = 0 ∧ SwapOk q.2.2 y q.2.1) → faops P G Hs x (pre ++ (t, fy, y) :: post) st K → nop P G Hs fy y st fun st' => faops P G Hs x (pre ++ post) st' K
 | [], st, _, h => by
  rw [List.nil_append, faops] at h
  rcases ht with rfl | rfl
  ·rwa [if_pos rfl] at h
  ·rw [if_neg (by decide), if_pos rfl] at h
   exact h.2
 | (tp, fp, p) :: pre, st, hc, h => by
  obtain ⟨c0, c1, c2, c3, c4, c5⟩ := hc (tp, fp, p) (by simp)
  have c0 : tp = 0 := c0
  subst c0
  rw [List.cons_append, faops, if_pos rfl] at h
  have h' : nop P G Hs fy y st fun st1 => nop P G Hs fp p st1 fun st2 => faops P G Hs x (pre ++ post) st2 K :=
   nop_swap c1 c2 c3 c4 c5 (nop_mono h fun st1 h1 => fa_hoist ht pre st1 (fun q hq => hc q (by simp [hq])) h1)
  refine nop_mono h' fun st1 h1 => ?_
  rw [List.cons_append, faops, if_pos rfl]
  exact h1
def swapB (p x : AOper) (fp : Bool) : Bool :=
 isPure p.o && (isPure x.o || fp) && (match p.d with
   | some d => !x.fslots.contains d && x.d != some d
   | none => true) && (match x.d with
   | some d => !p.fslots.contains d
   | none => true)
theorem swapB_ok {p x : AOper} {fp : Bool} (h : swapB p x fp = true) : SwapOk p x fp := by
 simp only [swapB, Bool.and_eq_true, Bool.or_eq_true] at h
 obtain ⟨⟨⟨c1, c2⟩, c3⟩, c4⟩ := h
 refine ⟨c1, c2, fun s hs e => ?_, fun s hs e => ?_, fun k e e' => ?_⟩
 ·rw [e] at c3
  simp [hs] at c3
 ·rw [e] at c4
  simp only [Bool.not_eq_true', List.contains_eq_mem, decide_eq_false_iff_not] at c4
  exact c4 hs
 ·rw [e] at c3
  simp [e'] at c3
def tagsOk (al : List AOper) (bs : List Nat) (xi : Nat) : List (Nat × Bool × Nat) → Bool
 | [] => true
 | p :: l => (if p.1 = 0 then (swapB (al.getD p.2.2 default) (al.getD xi default) p.2.1 || (bs.getD xi 0).testBit p.2.2) else if p.1 = 1 then !isPure (al.getD p.2.2 default).o else (p :: l).all fun q => (bs.getD q.2.2 0).testBit xi) && tagsOk al bs xi l
def nokF (al : List AOper) (xi : Nat) (tl : List (Nat × Bool × Nat)) : Bool :=
 beforeOk 0 al && decide (xi < al.length) && tl.all (fun p => decide (p.2.2 < al.length) && p.2.2 != xi) && (List.range al.length).all (fun i => i == xi || tl.any fun p => p.2.2 == i) && pairsOk al (befs [] al) (tl.map (·.2)) && tagsOk al (befs [] al) xi tl
def isAllocO : AOp → Bool
 | .alloc _ _ => true
 | _ => false
def canonB (al : List AOper) (skip : Nat) : Nat → List Nat → List Nat
 | 0, done => done
 | k + 1, done =>
  let rdy := fun i => !done.contains i && i != skip && ((al.getD i default).af.all fun e => done.contains e)
  match (List.range al.length).find? (fun i => rdy i && isPure (al.getD i default).o) with
  | some i => canonB al skip k (done ++ [i])
  | none => match (List.range al.length).find? rdy with
   | some i => canonB al skip k (done ++ [i])
   | none => done
def floatX (al : List AOper) : Nat := al.findIdx fun x => isAllocO x.o
def floatS (own : List Nat) (al : List AOper) : Option Nat := own.findSome? fun k => if 4000000 ≤ k ∧ k < 5000000 then (if al.any fun x => x.d == some (k - 4000000) then some (al.findIdx fun x => x.d == some (k - 4000000)) else none) else none
def floatL (al : List AOper) (xi : Nat) : List (Nat × Bool × Nat) :=
 let bs := befs [] al
 let p1 := canonB al xi al.length []
 let p2 := (canonGo al al.length (p1 ++ [xi])).drop (p1.length + 1)
 p1.map (fun i => (if isPure (al.getD i default).o || (bs.getD xi 0).testBit i then 0 else 1, isFree al bs i, i)) ++ p2.map fun i => (2, isFree al bs i, i)
def flist (al : List AOper) (tl : List (Nat × Bool × Nat)) : List (Nat × Bool × AOper) := tl.map fun p => (p.1, p.2.1, al.getD p.2.2 default)
theorem tagsOk_spec {al : List AOper} {bs : List Nat} {xi : Nat} : ∀ (pre : List (Nat × Bool × Nat)) {q : Nat × Bool × Nat} {post : List (Nat × Bool × Nat)}, tagsOk al bs xi (pre ++ q :: post) = true →
  (q.1 = 0 → SwapOk (al.getD q.2.2 default) (al.getD xi default) q.2.1 ∨ (bs.getD xi 0).testBit q.2.2 = true) ∧ (q.1 = 1 → isPure (al.getD q.2.2 default).o = false) ∧ (2 ≤ q.1 → (bs.getD q.2.2 0).testBit xi = true) ∧ (∀ p ∈ pre, 2 ≤ p.1 → (bs.getD q.2.2 0).testBit xi = true) ∧ (∀ p ∈ pre, p.1 = 1 → isPure (al.getD p.2.2 default).o = false)
 | [], q, post, h => by
  simp only [List.nil_append, tagsOk, Bool.and_eq_true] at h
  refine ⟨fun h0 => ?_, fun h1 => ?_, fun h2 => ?_, fun p hp => by simp at hp, fun p hp => by simp at hp⟩
  ·rw [if_pos h0, Bool.or_eq_true] at h; exact h.1.imp swapB_ok id
  ·rw [if_neg (by omega), if_pos h1] at h; simpa using h.1
  ·rw [if_neg (by omega), if_neg (by omega)] at h
   exact List.all_eq_true.1 h.1 q (by simp)
 | p0 :: pre, q, post, h => by
  simp only [List.cons_append, tagsOk, Bool.and_eq_true] at h
  obtain ⟨k1, k2, k3, k4, k5⟩ := tagsOk_spec pre h.2
  refine ⟨k1, k2, k3, fun p hp h2 => ?_, fun p hp h1 => ?_⟩
  ·rcases List.mem_cons.1 hp with rfl | hp
   ·have := h.1
    rw [if_neg (by omega), if_neg (by omega)] at this
    exact List.all_eq_true.1 this q (by simp)
   ·exact k4 p hp h2
  ·rcases List.mem_cons.1 hp with rfl | hp
   ·have := h.1
    rw [if_neg (by omega), if_pos h1] at this
    simpa using this
   ·exact k5 p hp h1
section
variable {own : List Nat} {ops : Array Oper} {al : List AOper} {tl : List (Nat × Bool × Nat)} {xi : Nat} {Q : Exit → Act → World → Prop} {w0 : World} {g0 : Gh} {K : St → Prop}
def restF (al : List AOper) (tl : List (Nat × Bool × Nat)) (listed : Array Bool) : List (Nat × Bool × AOper) := flist al (tl.filter fun p => !listed.getD p.2.2 false)
def ToGo (P : Program) (G : Nat → AV) (Hs : Nat → Option AObj) (al : List AOper) (tl : List (Nat × Bool × Nat)) (xi : Nat) (listed : Array Bool) (st : St) (K : St → Prop) : Prop :=
 if listed.getD xi false = true then naops P G Hs ((restF al tl listed).map (·.2)) st K else faops P G Hs (al.getD xi default) (restF al tl listed) st K
theorem nanyF (hal : absOpers P N own ops ops.toList = some al) (hok : nokF al xi tl = true)
  (hQ : ∀ st a w g, K st → Rel G N st g a w → Step w0 g0 w g → Q .normal a w) :
  ∀ (fuel : Nat) (listed : Array Bool) (st : St) (a : Act) (w : World) (g : Gh), listed.size = ops.size → (∀ i, i < ops.size → listed.getD i false = false → 0 < fuel) → ((List.range ops.size).countP fun i => !listed.getD i false) = fuel → Closed al listed →
   Sub Hs st.H → ToGo P G Hs al tl xi listed st K → Rel G N st g a w → Step w0 g0 w g → wpAny P .any ops Q fuel listed a w := by
 simp only [nokF, Bool.and_eq_true] at hok
 obtain ⟨⟨⟨⟨⟨hb, hxi⟩, hrg⟩, hcov⟩, hpr⟩, htg⟩ := hok
 have hlen : al.length = ops.size := by simpa using (absOpers_get hal).1
 have hxi : xi < ops.size := by rw [← hlen]; simpa using hxi
 have hrng : ∀ p ∈ tl, p.2.2 < ops.size ∧ p.2.2 ≠ xi := fun p hp => by
  have := List.all_eq_true.1 hrg p hp
  rw [← hlen]; simpa using this
 have fin : ∀ (listed : Array Bool) (st : St) (a : Act) (w : World) (g : Gh), (∀ i, i < ops.size → listed.getD i false = true) → ToGo P G Hs al tl xi listed st K → Rel G N st g a w → Step w0 g0 w g → Q .normal a w := fun listed st a w g h1 h2 h3 h4 => by
  have : tl.filter (fun p => !listed.getD p.2.2 false) = [] := by
   rw [List.filter_eq_nil_iff]
   intro p hp
   simp only [h1 p.2.2 (hrng p hp).1, Bool.not_true, Bool.false_eq_true, not_false_eq_true]
  rw [ToGo, if_pos (h1 xi hxi), restF, this] at h2
  exact hQ st a w g h2 h3 h4
 intro fuel
 induction fuel with
 | zero =>
  intro listed st a w g hsz hpos hcnt hc hsub h hR hS
  have hall : ∀ i, i < ops.size → listed.getD i false = true := fun i hi => by
   cases h : listed.getD i false with
   | true => rfl
   | false => have := hpos i hi h; omega
  refine ⟨?_, fin listed st a w g hall h hR hS⟩
  rw [List.eq_nil_iff_forall_not_mem]
  intro i hi
  obtain ⟨h1, o, h2, _⟩ := mem_ready.1 hi
  have := getD_tf h1
  rw [hall i (by rw [← hsz]; exact this.2)] at this
  cases this.1
 | succ fuel ih =>
  intro listed st a w g hsz hpos hcnt hc hsub h hR hS
  refine ⟨fun hn => fin listed st a w g (nready_nil hal hb hsz hn) h hR hS, fun i hi => ?_⟩
  obtain ⟨h1, o, h2, h3⟩ := mem_ready.1 hi
  obtain ⟨h4, h5⟩ := getD_tf h1
  obtain ⟨x, hx, hxo⟩ := (absOpers_get hal).2 i o (by simpa using h2)
  have e4 := (absOper_some hxo).2.2.2.1
  have ha : ∀ e ∈ x.af, listed.getD e false = true := fun e he => by
   rw [e4] at he
   obtain ⟨ed, h6, rfl⟩ := List.mem_map.1 he
   obtain ⟨h7, h8⟩ := List.mem_filter.1 h6
   exact h3 ed (Array.mem_toList_iff.1 h7) h8
  have hc' : Closed al (listed.setIfInBounds i true) := by
   intro j y hj hl e he
   rw [getD_set h5] at hl ⊢
   split
   ·rfl
   ·split at hl
    ·rename_i ej; subst ej; rw [hx] at hj; cases hj; exact ha e he
    ·exact hc j y hj hl e he
  have hsz' : (listed.setIfInBounds i true).size = ops.size := by simpa using hsz
  have hcnt' : ((List.range ops.size).countP fun j => !(listed.setIfInBounds i true).getD j false) = fuel := by
   have := cnt_less ops.size i (by omega) (fun j => !listed.getD j false) (by simp [h4])
   rw [hcnt] at this
   have e : (fun j => !(listed.setIfInBounds i true).getD j false) = fun j => (!listed.getD j false) && !(j == i) := by
    funext j
    rw [getD_set h5]
    by_cases hj : j = i
    ·simp [hj]
    ·simp [hj]
   rw [e]
   omega
  have hpos' : ∀ j, j < ops.size → (listed.setIfInBounds i true).getD j false = false → 0 < fuel := fun j hj hl => by
   rw [← hcnt', List.countP_pos_iff]
   exact ⟨j, List.mem_range.2 hj, by simp [hl]⟩
  have hgx : al.getD i default = x := by rw [List.getD_eq_getElem?_getD, hx]; rfl
  have reach : ∀ k, ((befs [] al).getD i 0).testBit k = true → listed.getD k false = true := fun k hk =>
   Reach.first hc hx (befs_sound al al [] (fun k => by simp) (fun i j hij => by simp at hij) _ _ hk) ha
  have ee : ∀ p : Nat × Bool × Nat, (!(listed.setIfInBounds i true).getD p.2.2 false) = ((!listed.getD p.2.2 false) && !(p.2.2 == i)) := fun p => by
   rw [getD_set h5]
   by_cases hj : p.2.2 = i
   ·simp [hj]
   ·simp [hj]
  have keep : ∀ l : List (Nat × Bool × Nat), (∀ p ∈ l, p.2.2 ≠ i) → l.filter (fun p => !(listed.setIfInBounds i true).getD p.2.2 false) = l.filter (fun p => !listed.getD p.2.2 false) := fun l hl => by
   refine List.filter_congr fun p hp => ?_
   rw [ee]
   simp [hl p hp]
  unfold wpOp
  simp only [h2]
  by_cases hix : i = xi
  ·-- the one that may come anywhere
   subst hix
   have hr : restF al tl (listed.setIfInBounds i true) = restF al tl listed := by rw [restF, restF, keep tl fun p hp => (hrng p hp).2]
   rw [ToGo, if_neg (by rw [h4]; decide), hgx] at h
   have hh := fa_now _ _ (fun q hq h0 => by
    obtain ⟨p, hp, rfl⟩ := List.mem_map.1 hq
    obtain ⟨pre, post, hsp⟩ := List.append_of_mem (List.mem_filter.1 hp).1
    rw [hsp] at htg
    have hpn : listed.getD p.2.2 false = false := by simpa using (List.mem_filter.1 hp).2
    rcases (tagsOk_spec pre htg).1 h0 with this | this
    ·rwa [hgx] at this
    ·rw [reach _ this] at hpn; cases hpn) h
   refine nop_sound hR hxo (fun e => by cases e) hsub hh fun st' g' a' w' k0 k1 k2 k3 => ?_
   refine ih _ st' a' w' g' hsz' hpos' hcnt' hc' k0 ?_ k2 (hS.trans k3)
   rw [ToGo, if_pos (by rw [getD_set h5, if_pos rfl]), hr]
   exact k1
  ·-- where it stands among those still to come
   have hq := List.all_eq_true.1 hcov i (List.mem_range.2 (by omega))
   simp only [Bool.or_eq_true, beq_iff_eq] at hq
   obtain ⟨q, hq, hqi⟩ := List.any_eq_true.1 (hq.resolve_left hix)
   have hqi : q.2.2 = i := by simpa using hqi
   have hqf : q ∈ tl.filter (fun p => !listed.getD p.2.2 false) := List.mem_filter.2 ⟨hq, by rw [hqi, h4]; rfl⟩
   obtain ⟨pre, post, hsp⟩ := List.append_of_mem hqf
   obtain ⟨ca, cb, hcl, hpa, hpb⟩ := filter_split _ hsp
   have hpr' := hpr
   rw [hcl, List.map_append, List.map_cons] at hpr'
   obtain ⟨p1, p2, p3⟩ := pairsOk_spec (ca.map (·.2)) hpr'
   have htg' := htg
   rw [hcl] at htg'
   obtain ⟨t1, t2, t3, t4, t5⟩ := tagsOk_spec ca htg'
   have hgd : al.getD q.2.2 default = x := by rw [hqi]; exact hgx
   have p1' : ∀ p ∈ ca, pairOk al (befs [] al) p.2 q.2 = true ∧ p.2.2 ≠ q.2.2 := fun p hp => p1 p.2 (List.mem_map.2 ⟨p, hp, rfl⟩)
   have p2' : ∀ p ∈ cb, p.2.2 ≠ q.2.2 := fun p hp => p2 p.2 (List.mem_map.2 ⟨p, hp, rfl⟩)
   have hrest' : restF al tl (listed.setIfInBounds i true) = flist al (pre ++ post) := by
    rw [restF, hcl, List.filter_append, List.filter_cons_of_neg (by rw [ee, hqi]; simp), keep ca (fun p hp => by rw [← hqi]; exact (p1' p hp).2), keep cb (fun p hp => by rw [← hqi]; exact p2' p hp), hpa, hpb]
   have hsw : ∀ p ∈ pre, SwapOk (al.getD p.2.2 default) x p.2.1 := fun p hp => by
    have hpl : p ∈ tl.filter (fun p => !listed.getD p.2.2 false) := by rw [hsp]; simp [hp]
    have hpn : listed.getD p.2.2 false = false := by simpa using (List.mem_filter.1 hpl).2
    have hpc : p ∈ ca := by rw [← hpa] at hp; exact (List.mem_filter.1 hp).1
    obtain ⟨k1, k2⟩ := p1' p hpc
    simp only [pairOk, hgd, Bool.or_eq_true] at k1
    rcases k1 with k1 | k1
    ·exfalso
     rw [hqi] at k1
     have := reach _ k1
     rw [hpn] at this
     cases this
    ·exact swapB_ok k1
   have hf : q.2.1 = true → isPure x.o = true := by rw [← hgd]; exact p3
   cases hlx : listed.getD xi false with
   | true =>
    rw [ToGo, if_pos hlx, restF, hsp] at h
    simp only [flist, List.map_append, List.map_cons, hgd] at h
    have hh := hoist ((pre.map fun p => (p.1, p.2.1, al.getD p.2.2 default)).map (·.2)) st (fun y hy => by
     obtain ⟨z, hz, rfl⟩ := List.mem_map.1 hy
     obtain ⟨p, hp, rfl⟩ := List.mem_map.1 hz
     exact hsw p hp) h
    refine nop_sound hR hxo hf hsub hh fun st' g' a' w' k0 k1 k2 k3 => ?_
    refine ih _ st' a' w' g' hsz' hpos' hcnt' hc' k0 ?_ k2 (hS.trans k3)
    rw [ToGo, if_pos (by rw [getD_set h5]; split <;> first | rfl | exact hlx), hrest', flist, List.map_append, List.map_append]
    exact k1
   | false =>
    rw [ToGo, if_neg (by rw [hlx]; decide), restF, hsp] at h
    simp only [flist, List.map_append, List.map_cons, hgd] at h
    have hno : ¬ ((befs [] al).getD i 0).testBit xi = true := fun e => by
     have := reach _ e
     rw [hlx] at this
     cases this
    have hq01 : q.1 = 0 ∨ q.1 = 1 := by
     rcases Nat.lt_or_ge q.1 2 with h' | h'
     ·omega
     ·exact absurd (by rw [← hqi]; exact t3 h') hno
    have hh := fa_hoist hq01 (pre.map fun p => (p.1, p.2.1, al.getD p.2.2 default)) st (fun y hy => by
     obtain ⟨p, hp, rfl⟩ := List.mem_map.1 hy
     have hpc : p ∈ ca := by rw [← hpa] at hp; exact (List.mem_filter.1 hp).1
     refine ⟨?_, hsw p hp⟩
     have hp1 := (hsw p hp).1
     rcases Nat.lt_or_ge p.1 2 with h' | h'
     ·have : p.1 ≠ 1 := fun e => by rw [t5 p hpc e] at hp1; cases hp1
      show p.1 = 0
      omega
     ·exact absurd (by rw [← hqi]; exact t4 p hpc h') hno) h
    refine nop_sound hR hxo hf hsub hh fun st' g' a' w' k0 k1 k2 k3 => ?_
    refine ih _ st' a' w' g' hsz' hpos' hcnt' hc' k0 ?_ k2 (hS.trans k3)
    rw [ToGo, if_neg (by rw [getD_set h5, if_neg (fun e => hix e.symm), hlx]; decide), hrest', flist, List.map_append]
    exact k1
end
end Go.Ab
/-! Code, and a function's body. -/
namespace Go.Ab
open Go.RowKit
variable {P : Program} {w w' : World} {g g' : Gh} {G : Nat → AV} {N : Nat} {st : St} {a : Act} {H : Nat → Option AObj}
def bareOp (x : AOper) : AOper := { x with af := [] }
theorem aops_bare : ∀ (al : List AOper) (st : St) (K : St → Prop), aops P G (al.map bareOp) st K = aops P G al st K
 | [], st, K => rfl
 | x :: al, st, K => by
  simp only [List.map_cons, aops, bareOp]
  have : (fun st' => aops P G (al.map bareOp) st' K) = fun st' => aops P G al st' K := funext fun st' => aops_bare al st' K
  rw [this]
  cases x.g with
  | none => rfl
  | some q => obtain ⟨j, b⟩ := q; simp only [aops_bare al]
def isE (own : List Nat) (x : AOper) : Bool := match x.d with
 | some k => own.contains (k + 1000000)
 | none => false
def cutE (own : List Nat) : List AOper → List (List AOper × AOper) × List AOper
 | [] => ([], [])
 | x :: xs => match cutE own xs with
  | (s, l) => if isE own x then (([], x) :: s, l) else match s with
   | [] => ([], x :: l)
   | (A, c) :: r => ((x :: A, c) :: r, l)
theorem cutE_flat (own : List Nat) : ∀ (al : List AOper), (flatE (cutE own al).1 (cutE own al).2).map (·.2) = al
 | [] => rfl
 | x :: xs => by
  have ih := cutE_flat own xs
  simp only [cutE]
  split
  ·simp only [flatE, List.map_nil, List.nil_append, List.map_cons, ih]
  ·generalize hc : cutE own xs = p at ih ⊢
   obtain ⟨s, l⟩ := p
   cases s with
   | nil => simp only [flatE, List.map_cons] at ih ⊢; rw [ih]
   | cons q r =>
    obtain ⟨A, c⟩ := q
    simp only [flatE, List.map_cons, List.cons_append] at ih ⊢
    rw [ih]
def cutA (al : List AOper) : Option (Nat × Nat × Nat × Nat × Nat) :=
 match al.findIdx? fun x => isNew x.o with
 | none => none
 | some j => match al[j]? with
  | some ⟨some d, .alloc E z, _, _⟩ => some (j, al.findIdx fun x => isStore x.o, d, z.length, E)
  | _ => some (0, 0, 0, 0, 0)
def absCode (P : Program) (N : Nat) (own : List Nat) : Code → Option ACode
 | .skip | .label _ => some .skip
 | .region _ ops draw => match absOpers P N own ops ops.toList with
  | some al => if draw then (match floatS own al with
   | some xi => if nokF al xi (floatL al xi) then some (.freg (al.getD xi default) (flist al (floatL al xi))) else none
   | none => if own.contains 2000000 && nok al (canon al) then some (.nreg (nlist al (canon al))) else if own.contains 3000000 && nokF al (floatX al) (floatL al (floatX al)) then some (.freg (al.getD (floatX al) default) (flist al (floatL al (floatX al)))) else if dok al then (if al.any (isE own) then (if eok (flatE (cutE own al).1 (cutE own al).2) then some (.ereg (cutE own al).1 (cutE own al).2) else none) else (match cutA al with
   | some (j, s, d, n, E) => if aok al j s d n E then some (.areg al j s d n E) else none
   | none => some (.dreg al))) else none) else some (.reg (al.map bareOp))
  | none => none
 | .seq x y => match absCode P N own x, absCode P N own y with
  | some u, some v => some (.seq u v)
  | _, _ => none
 | .cond c x y => match absCode P N own x, absCode P N own y with
  | some u, some v => some (.cond (absOpd c) u v)
  | _, _ => none
 | .block id b => (absCode P N own b).map (.blk id)
 | .loop b => (absCode P N own b).map .loop
 | .exit id => some (.exit id)
 | .ret => some .ret
 | _ => some .bad
theorem rep_false (n i : Nat) : (Array.replicate n false).getD i false = false := by
 rw [Array.getD_eq_getD_getElem?, Array.getElem?_replicate]; split <;> rfl
theorem dreg_sound {own : List Nat} {ops : Array Oper} {al : List AOper} {Q : Exit → Act → World → Prop} (hmix : P.follows .mixedOrders = true) {id : Nat} (hal : absOpers P N own ops ops.toList = some al) (hok : dok al = true) {K : (Nat → AV) → (Nat → Option AObj) → Prop} (h : adops P G st.H al st.fr K) (hR : Rel G N st g a w)
  (hQ : ∀ fr H' a' w' g', K fr H' → Rel G N ⟨fr, H', g'.n⟩ g' a' w' → Step w g w' g' → Q .normal a' w') : (Code.region id ops true).wp P Q a w := by
 obtain ⟨F, HH, h1, h0, h2, h3⟩ := adops_trace al st.H st.fr K h
 refine wp_region_any hmix ?_
 have hR0 : Rel G N ⟨frL al F (Array.replicate ops.size false), hL al HH (Array.replicate ops.size false), g.n⟩ g a w.drew := by
  have e0 : hL al HH (Array.replicate ops.size false) = st.H := by
   rw [hL_at h3 (Nat.zero_le _) (fun j _ _ => by rw [rep_false]; simp), h0]
  have : frL al F (Array.replicate ops.size false) = st.fr := by
   funext s
   unfold frL
   rw [if_neg, h1]
   rintro ⟨i, x, _, _, h6⟩
   rw [rep_false] at h6
   cases h6
  rw [this, e0, hR.n]
  exact hR.drew
 refine dany hal hok (fun i x hx s hs => (h3 i x hx).other hs) h3 (w0 := w) (g0 := g) (fun a' w' g' k1 k2 => hQ _ _ a' w' g' h2 k1 k2) ops.size _ a w.drew g (by simp) (fun i hi _ => by omega) ?_ ?_ hR0 (step_drew w g)
 ·have : ∀ n, (List.range n).countP (fun i => !(Array.replicate ops.size false).getD i false) = n := by
   intro n
   rw [List.countP_eq_length.2]
   ·simp
   ·intro i _
    rw [rep_false]; rfl
  exact this _
 ·intro i x _ hl
  rw [rep_false] at hl
  cases hl
theorem ereg_sound {own : List Nat} {ops : Array Oper} {al : List AOper} {segs : List (List AOper × AOper)} {last : List AOper} {Hs : Nat → Option AObj} {Q : Exit → Act → World → Prop} (hmix : P.follows .mixedOrders = true) {id : Nat} (hal : absOpers P N own ops ops.toList = some al) (hok : dok al = true) (hfl : (flatE segs last).map (·.2) = al) (hek : eok (flatE segs last) = true) (h0 : Sub Hs st.H) {K : (Nat → AV) → (Nat → Option AObj) → Prop} (h : edops P G Hs segs last st.H st.fr K) (hR : Rel G N st g a w)
  (hQ : ∀ fr H' a' w' g', K fr H' → Rel G N ⟨fr, H', g'.n⟩ g' a' w' → Step w g w' g' → Q .normal a' w') : (Code.region id ops true).wp P Q a w := by
 subst hfl
 obtain ⟨fr', H', htr0, hK⟩ := edops_tr segs last st.H st.fr K (fun x hx => ((eok_spec hek).1 x.1 x.2 hx).1) h
 generalize flatE segs last = fl at hal hok hek htr0
 obtain ⟨F, HH, h1, h2, h3, h4, h5⟩ := tr_trace htr0
 refine wp_region_any hmix ?_
 have hR0 : Rel G N ⟨frL (fl.map (·.2)) F (Array.replicate ops.size false), hE fl HH (Array.replicate ops.size false), g.n⟩ g a w.drew := by
  have e0 : hE fl HH (Array.replicate ops.size false) = st.H := by
   rw [hE_at h5 (Nat.zero_le _) (fun j _ _ => by rw [rep_false]; simp), h2]
  have : frL (fl.map (·.2)) F (Array.replicate ops.size false) = st.fr := by
   funext s
   unfold frL
   rw [if_neg, h1]
   rintro ⟨i, x, _, _, h6⟩
   rw [rep_false] at h6
   cases h6
  rw [this, e0, hR.n]
  exact hR.drew
 refine edany hal hok hek (by rw [h2]; exact h0) h5 (w0 := w) (g0 := g) (fun a' w' g' k1 k2 => hQ fr' H' a' w' g' hK (by rw [← h3, ← h4]; exact k1) k2) ops.size _ a w.drew g (by simp) (fun i hi _ => by omega) ?_ ?_ hR0 (step_drew w g)
 ·have : ∀ n, (List.range n).countP (fun i => !(Array.replicate ops.size false).getD i false) = n := by
   intro n
   rw [List.countP_eq_length.2]
   ·simp
   ·intro i _
    rw [rep_false]; rfl
  exact this _
 ·intro i x _ hl
  rw [rep_false] at hl
  cases hl
theorem areg_sound {own : List Nat} {ops : Array Oper} {al : List AOper} {j s d n E : Nat} {cs : List AV} {Q : Exit → Act → World → Prop} (hmix : P.follows .mixedOrders = true) {id : Nat} (hal : absOpers P N own ops ops.toList = some al) (hok : dok al = true) (hak : aok al j s d n E = true) (hcl : cs.length = n) (hc1 : cs.all AV.one = true) {K : (Nat → AV) → Prop} (h : asteps P G st.H cs al st.fr K) (hR : Rel G N st g a w)
  (hQ : ∀ fr m a' w' g', K fr → st.n ≤ m → m < g'.n → Rel G N ⟨upd fr d (.op m 0 0), upd st.H m (some ⟨E, n, [cs]⟩), g'.n⟩ g' a' w' → Step w g w' g' → Q .normal a' w') : (Code.region id ops true).wp P Q a w := by
 obtain ⟨F, h1, h2, h3⟩ := asteps_trace al st.fr K h
 refine wp_region_any hmix ?_
 have hR0 : Rel G N ⟨frL al F (Array.replicate ops.size false), st.H, g.n⟩ g a w.drew := by
  have : frL al F (Array.replicate ops.size false) = st.fr := by
   funext s
   unfold frL
   rw [if_neg, h1]
   rintro ⟨i, x, _, _, h6⟩
   rw [rep_false] at h6
   cases h6
  rw [this, hR.n]
  exact hR.drew
 refine adany hal hok hak hcl hc1 (n0 := st.n) (H0 := st.H) (fun i o hi => by rw [← hR.n]; exact (hR.inv.lt i o (by rw [hR.H]; exact hi)).1) (by rw [← hR.n]; exact Nat.le_refl _) h3 (w0 := w) (g0 := g) (fun a' w' g' m k0 k1 k2 k3 => hQ _ m a' w' g' h2 k0 k1 k2 k3) ops.size _ a w.drew g (by simp) (fun i hi _ => by omega) ?_ ?_ (.inl ⟨rep_false _ _, hR0⟩) (step_drew w g)
 ·have : ∀ n, (List.range n).countP (fun i => !(Array.replicate ops.size false).getD i false) = n := by
   intro n
   rw [List.countP_eq_length.2]
   ·simp
   ·intro i _
    rw [rep_false]; rfl
  exact this _
 ·intro i x _ hl
  rw [rep_false] at hl
  cases hl
theorem nreg_sound {own : List Nat} {ops : Array Oper} {al : List AOper} {cl : List (Bool × Nat)} {K : St → Prop} {Q : Exit → Act → World → Prop} (hmix : P.follows .mixedOrders = true) {id : Nat} (hal : absOpers P N own ops ops.toList = some al) (hok : nok al cl = true) {Hs : Nat → Option AObj} (hsub : Sub Hs st.H) (h : naops P G Hs (nlist al cl) st K) (hR : Rel G N st g a w)
  (hQ : ∀ st' a' w' g', K st' → Rel G N st' g' a' w' → Step w g w' g' → Q .normal a' w') : (Code.region id ops true).wp P Q a w := by
 refine wp_region_any hmix ?_
 refine nany hal hok (w0 := w) (g0 := g) (fun st' a' w' g' k1 k2 k3 => hQ st' a' w' g' k1 k2 k3) ops.size _ st a w.drew g (by simp) (fun i hi _ => by omega) ?_ ?_ hsub ?_ hR.drew (step_drew w g)
 ·have : ∀ n, (List.range n).countP (fun i => !(Array.replicate ops.size false).getD i false) = n := by
   intro n
   rw [List.countP_eq_length.2]
   ·simp
   ·intro i _
    rw [rep_false]; rfl
  exact this _
 ·intro i x _ hl
  rw [rep_false] at hl
  cases hl
 ·rw [rest, List.filter_eq_self.2]
  ·exact h
  ·intro p _
   rw [rep_false]; rfl
theorem freg_sound {own : List Nat} {ops : Array Oper} {al : List AOper} {xi : Nat} {tl : List (Nat × Bool × Nat)} {K : St → Prop} {Q : Exit → Act → World → Prop} (hmix : P.follows .mixedOrders = true) {id : Nat} (hal : absOpers P N own ops ops.toList = some al) (hok : nokF al xi tl = true) {Hs : Nat → Option AObj} (hsub : Sub Hs st.H) (h : faops P G Hs (al.getD xi default) (flist al tl) st K) (hR : Rel G N st g a w)
  (hQ : ∀ st' a' w' g', K st' → Rel G N st' g' a' w' → Step w g w' g' → Q .normal a' w') : (Code.region id ops true).wp P Q a w := by
 refine wp_region_any hmix ?_
 refine nanyF hal hok (w0 := w) (g0 := g) (fun st' a' w' g' k1 k2 k3 => hQ st' a' w' g' k1 k2 k3) ops.size _ st a w.drew g (by simp) (fun i hi _ => by omega) ?_ ?_ hsub ?_ hR.drew (step_drew w g)
 ·have : ∀ n, (List.range n).countP (fun i => !(Array.replicate ops.size false).getD i false) = n := by
   intro n
   rw [List.countP_eq_length.2]
   ·simp
   ·intro i _
    rw [rep_false]; rfl
  exact this _
 ·intro i x _ hl
  rw [rep_false] at hl
  cases hl
 ·rw [ToGo, if_neg (by rw [rep_false]; decide), restF, List.filter_eq_self.2]
  ·exact h
  ·intro p _
   rw [rep_false]; rfl
theorem aw_sound {own : List Nat} (hmix : P.follows .mixedOrders = true) : ∀ (c : Code) (ac : ACode) (Q : AExit → St → Prop) (st : St) (g : Gh) (a : Act) (w : World), absCode P N own c = some ac → aw P G ac Q st → Rel G N st g a w → c.wp P (RQ G N w g Q) a w
 | .skip, ac, Q, st, g, a, w, hc, h, hR => by
  cases hc
  exact wp_skip ⟨st, g, h, hR, Step.refl _ _⟩
 | .label l, ac, Q, st, g, a, w, hc, h, hR => by
  cases hc
  exact wp_label ⟨st, g, h, hR, Step.refl _ _⟩
 | .region id ops draw, ac, Q, st, g, a, w, hc, h, hR => by
  simp only [absCode] at hc
  split at hc
  ·rename_i al hal
   cases draw with
   | false =>
    simp only [Bool.false_eq_true, if_false] at hc
    cases hc
    simp only [aw, aops_bare] at h
    exact wp_region_list (aops_sound _ _ st g a w (Q .normal) hal h hR fun st' g' a' w' k1 k2 k3 => ⟨st', g', k1, k2, k3⟩)
   | true =>
    simp only [if_true] at hc
    split at hc
    ·split at hc
     ·rename_i hnk
      cases hc
      obtain ⟨Hs, hsub, h⟩ := h
      exact freg_sound hmix hal hnk hsub h hR fun st' a' w' g' k1 k2 k3 => ⟨st', g', k1, k2, k3⟩
     ·cases hc
    split at hc
    ·rename_i hnk
     cases hc
     simp only [Bool.and_eq_true] at hnk
     obtain ⟨Hs, hsub, h⟩ := h
     exact nreg_sound hmix hal hnk.2 hsub h hR fun st' a' w' g' k1 k2 k3 => ⟨st', g', k1, k2, k3⟩
    split at hc
    ·rename_i hnk
     cases hc
     simp only [Bool.and_eq_true] at hnk
     obtain ⟨Hs, hsub, h⟩ := h
     exact freg_sound hmix hal hnk.2 hsub h hR fun st' a' w' g' k1 k2 k3 => ⟨st', g', k1, k2, k3⟩
    split at hc
    ·rename_i hok
     split at hc
     ·split at hc
      ·rename_i hek
       cases hc
       obtain ⟨Hs, h0, h⟩ := h
       exact ereg_sound hmix hal hok (cutE_flat own al) hek h0 h hR fun fr H' a' w' g' k1 k2 k3 => ⟨_, g', k1 g'.n (by rw [← hR.n]; exact k3.n), k2, k3⟩
      ·cases hc
     ·split at hc
      ·split at hc
       ·rename_i hak
        cases hc
        obtain ⟨cs, hcl, hc1, h⟩ := h
        exact areg_sound hmix hal hok hak hcl hc1 h hR fun fr m a' w' g' k1 k2 k3 k4 k5 => ⟨_, g', k1 m g'.n k2 k3, k4, k5⟩
       ·cases hc
      cases hc
      exact dreg_sound hmix hal hok h hR fun fr H' a' w' g' k1 k2 k3 => ⟨_, g', k1 g'.n (by rw [← hR.n]; exact k3.n), k2, k3⟩
    ·cases hc
  ·cases hc
 | .seq x y, ac, Q, st, g, a, w, hc, h, hR => by
  simp only [absCode] at hc
  split at hc
  ·rename_i u v hu hv
   cases hc
   refine wp_seq (wp_mono (aw_sound hmix x u _ st g a w hu h hR) fun e a' w' hq => ?_)
   cases e with
   | normal =>
    obtain ⟨st', g', k1, k2, k3⟩ := hq
    exact wp_mono (aw_sound hmix y v Q st' g' a' w' hv k1 k2) (RQ.step k3 fun _ _ h => h)
   | exit id => exact hq
   | ret => exact hq
   | goto l => exact hq.elim
   | panic c => exact hq.elim
   | outgrown => exact hq.elim
  ·cases hc
 | .cond c x y, ac, Q, st, g, a, w, hc, h, hR => by
  simp only [absCode] at hc
  split at hc
  ·rename_i u v hu hv
   cases hc
   simp only [aw] at h
   have hx := ev_rep hR c
   split at h
   ·rename_i t ht
    rw [ht] at hx
    have hx : a.eval c = .bool t := hx
    cases t with
    | true => exact wp_cond_true hx (aw_sound hmix x u Q st g a w hu (h.1 rfl) hR)
    | false => exact wp_cond_false hx (aw_sound hmix y v Q st g a w hv (h.2 rfl) hR)
   ·exact h.elim
  ·cases hc
 | .block id b, ac, Q, st, g, a, w, hc, h, hR => by
  simp only [absCode] at hc
  obtain ⟨u, hu, rfl⟩ := Option.map_eq_some_iff.1 hc
  refine wp_block (wp_mono (aw_sound hmix b u _ st g a w hu h hR) fun e a' w' hq => ?_)
  cases e with
  | normal => exact hq
  | exit k =>
   obtain ⟨st', g', k1, k2, k3⟩ := hq
   simp only [blkQ] at k1
   simp only [Exit.inBlock]
   by_cases hk : k = id
   ·rw [if_pos hk] at k1
    rw [if_pos hk]
    exact ⟨st', g', k1, k2, k3⟩
   ·rw [if_neg hk] at k1
    rw [if_neg hk]
    exact ⟨st', g', k1, k2, k3⟩
  | ret => exact hq
  | goto l => exact hq.elim
  | panic c => exact hq.elim
  | outgrown => exact hq.elim
 | .loop b, ac, Q, st, g, a, w, hc, h, hR => by
  simp only [absCode] at hc
  obtain ⟨u, hu, rfl⟩ := Option.map_eq_some_iff.1 hc
  obtain ⟨I, n, ⟨st0, hs0, h1⟩, h2⟩ := h
  obtain ⟨gz, hRz, hSz⟩ := hR.soft hs0
  -- the measure stands in no slot: it is counted beside
  have key : ∀ (n : Nat) (st : St) (g1 : Gh) (a : Act) (w1 : World), I n st → Rel G N st g1 a w1 → Step w g w1 g1 → ∀ (fb : Frame) (k : List Item) (cs : List Frame),
    ∃ e a' w', RQ G N w g Q e a' w' ∧ Arrives P (lone (fb.at a (.code b :: .inLoop b :: k)) cs w1) fb k cs e a' w' := by
   intro n
   induction n using Nat.strongRecOn with
   | _ n ih =>
    intro st g1 a w1 hI hR1 hS1 fb k cs
    obtain ⟨e, a1, w2, hq, harr⟩ := aw_sound hmix b u _ st g1 a w1 hu (h2 n st hI) hR1 fb (.inLoop b :: k) cs
    cases e with
    | normal =>
     obtain ⟨st', g', k1, k2, k3⟩ := hq
     obtain ⟨m, hm, st2, hwk, hI2⟩ := k1
     obtain ⟨g2, hR2, hS2⟩ := k2.soft hwk
     obtain ⟨e2, a2, w3, hq2, harr2⟩ := ih m hm st2 g2 a1 w2 hI2 hR2 ((hS1.trans k3).trans hS2) fb k cs
     exact ⟨e2, a2, w3, hq2, .of_steps (Steps.trans harr (.one step_inLoop)) harr2⟩
    | exit id =>
     obtain ⟨st', g', k1, k2, k3⟩ := hq
     exact ⟨.exit id, a1, w2, ⟨st', g', k1, k2, hS1.trans k3⟩, .pass (x := .inLoop b) rfl (fun _ _ => .inl (by simp)) harr⟩
    | ret =>
     obtain ⟨st', g', k1, k2, k3⟩ := hq
     exact ⟨.ret, a1, w2, ⟨st', g', k1, k2, hS1.trans k3⟩, .pass (x := .inLoop b) rfl (fun _ _ => .inl (by simp)) harr⟩
    | goto l => exact hq.elim
    | panic c => exact hq.elim
    | outgrown => exact hq.elim
  intro fb k cs
  obtain ⟨e, a', w', hq, harr⟩ := key n st0 gz a w h1 hRz hSz fb k cs
  exact ⟨e, a', w', hq, .of_steps (.one step_loop) harr⟩
 | .exit id, ac, Q, st, g, a, w, hc, h, hR => by
  cases hc
  exact wp_exit ⟨st, g, h, hR, Step.refl _ _⟩
 | .ret, ac, Q, st, g, a, w, hc, h, hR => by
  cases hc
  exact wp_ret ⟨st, g, h, hR, Step.refl _ _⟩
 | .goto _, ac, Q, st, g, a, w, hc, h, hR => by cases hc; exact h.elim
 | .scope _, ac, Q, st, g, a, w, hc, h, hR => by cases hc; exact h.elim
 | .rangeFunc _ _ _ _, ac, Q, st, g, a, w, hc, h, hR => by cases hc; exact h.elim
 | .refuse _, ac, Q, st, g, a, w, hc, h, hR => by cases hc; exact h.elim
/-! A function. -/
inductive ARes where
 | t (n : Nat)
 | c (ag : Bool) (n : Nat) (s : Nat)
 deriving Inhabited
def absRes1 (P : Program) : ResultVar → Option ARes
 | .tmp t => some (.t t)
 | .cell s t => match aggOf P t, P.info? t with
  | some ag, some i => some (.c ag i.size s)
  | _, _ => none
def absRes (P : Program) : List ResultVar → Option (List ARes)
 | [] => some []
 | r :: rs => match absRes1 P r, absRes P rs with
  | some x, some xs => some (x :: xs)
  | _, _ => none
def ares1 (H : Nat → Option AObj) (fr : Nat → AV) : ARes → Option AV
 | .t n => some (fr n)
 | .c ag n s => aload H ag n (fr s)
def aresL (H : Nat → Option AObj) (fr : Nat → AV) : List ARes → Option (List AV)
 | [] => some []
 | r :: rs => match ares1 H fr r, aresL H fr rs with
  | some x, some xs => some (x :: xs)
  | _, _ => none
def aone : List AV → AV
 | [x] => x
 | xs => .tup xs
def ares (H : Nat → Option AObj) (fr : Nat → AV) (rs : List ARes) : Option AV := (aresL H fr rs).map aone
def resOf (tmps : Array Value) : ResultVar → Sem Value
 | .tmp t => pure (tmps.getD t undef)
 | .cell s t => do loadVar t (← asAddr (tmps.getD s undef))
theorem res1_sound (hR : Rel G N st g a w) {r : ResultVar} {x : ARes} (hx : absRes1 P r = some x) {v : AV} (h : ares1 st.H st.fr x = some v) :
  ∃ u, (resOf a.tmps r).run P w = .ok u w ∧ Rep w g v u := by
 cases r with
 | tmp t =>
  cases hx
  cases h
  exact ⟨_, rfl, hR.fr t⟩
 | cell s t =>
  simp only [absRes1] at hx
  split at hx
  ·rename_i ag i hu hi
   cases hx
   simp only [ares1] at h
   rw [← hR.H] at h
   obtain ⟨u, h1, h2⟩ := load_sound (P := P) hR.inv hu hi (hR.fr s) h
   refine ⟨u, ?_, h2⟩
   simp only [Instr.loadAt] at h1
   have : ∃ ad, a.tmps.getD s undef = .pointer (some ad) := by
    have hp := hR.fr s
    cases hv : st.fr s with
    | pp cells => rw [hv] at hp; obtain ⟨b, o, e, _⟩ := hp; exact ⟨_, e⟩
    | op j r c => rw [hv] at hp; obtain ⟨⟨ad, e⟩, _⟩ := hp; exact ⟨_, e⟩
    | _ => rw [hv] at h; simp [aload] at h
   obtain ⟨ad, had⟩ := this
   rw [had] at h1
   simp only [resOf]
   rw [had]
   simpa [Instr.sureAddr, asAddr] using h1
  ·cases hx
theorem resL_sound (hR : Rel G N st g a w) : ∀ {rs : List ResultVar} {xs : List ARes} {vs : List AV}, absRes P rs = some xs → aresL st.H st.fr xs = some vs →
  ∃ us : List Value, (rs.mapM (resOf a.tmps)).run P w = .ok us w ∧ RepList w g vs us
 | [], xs, vs, hx, h => by
  cases hx
  cases h
  exact ⟨[], by simp, rfl⟩
 | r :: rs, xs, vs, hx, h => by
  simp only [absRes] at hx
  split at hx
  ·rename_i x xs' h1 h2
   cases hx
   simp only [aresL] at h
   split at h
   ·rename_i v vs' h3 h4
    cases h
    obtain ⟨u, k1, k2⟩ := res1_sound hR h1 h3
    obtain ⟨us, k3, k4⟩ := resL_sound hR h2 h4
    refine ⟨u :: us, ?_, u, us, rfl, k2, k4⟩
    simp only [List.mapM_cons, Sem.run_bind, k1, Result.andThen_ok, k3, Sem.run_pure]
   ·cases h
  ·cases hx
theorem res_sound (hR : Rel G N st g a w) {fn : Func} {rs : List ARes} (hrs : absRes P fn.results.toList = some rs) {v : AV} (h : ares st.H st.fr rs = some v) :
  ∃ u, (results fn a.tmps).run P w = .ok u w ∧ Rep w g v u := by
 obtain ⟨vs, h1, h2⟩ := Option.map_eq_some_iff.1 h
 obtain ⟨us, h3, h4⟩ := resL_sound hR hrs h1
 have h5 : (fn.results.mapM (resOf a.tmps)).run P w = .ok us.toArray w := by
  rw [Array.mapM_eq_mapM_toList]
  simp [h3]
 have h6 : (results fn a.tmps).run P w = .ok (if h : us.toArray.size = 1 then us.toArray[0] else .tuple us.toArray) w := by
  unfold results
  rw [Sem.run_bind]
  refine Eq.trans (congrArg (fun r => Result.andThen r _) h5) ?_
  rfl
 refine ⟨_, h6, ?_⟩
 subst h2
 have hl := h4.length
 match vs, us, h4, hl with
 | [], [], h4, _ => exact ⟨#[], rfl, h4⟩
 | [x], [u], h4, _ =>
  obtain ⟨u', us', e, k1, k2⟩ := h4
  cases e
  exact k1
 | x :: y :: vs, u :: u2 :: us, h4, _ => exact ⟨(u :: u2 :: us).toArray, by simp, by simpa using h4⟩
structure AFunc where
 N : Nat
 c : ACode
 r : List ARes
 deriving Inhabited
def absFn (P : Program) (own : List Nat) (f : FuncId) : Option AFunc := match P.funcs[f]? with
 | some fn => if fn.name == "runtime.NumGoroutine" then none else match fn.body with
  | some c => match absCode P fn.ntmps own c, absRes P fn.results.toList with
   | some ac, some rs => some ⟨fn.ntmps, ac, rs⟩
   | _, _ => none
  | none => none
 | none => none
def argFr (args : List AV) : Nat → AV := fun s => args.getD s .any
def endQ (rs : List ARes) (R : AV → (Nat → Option AObj) → Nat → Prop) : AExit → St → Prop
 | .exit _, _ => False
 | _, st => ∃ r H', ares st.H st.fr rs = some r ∧ Sub H' st.H ∧ R r H' st.n
theorem ACalls.of_aw {own : List Nat} (hmix : P.follows .mixedOrders = true) {f : FuncId} {F : AFunc} (hf : absFn P own f = some F) {args : List AV} {H : Nat → Option AObj} {n : Nat} {R : AV → (Nat → Option AObj) → Nat → Prop} (hl : args.length ≤ F.N)
  (h : (∀ i o, H i = some o → i < n) → aw P G F.c (endQ F.r R) ⟨argFr args, H, n⟩) : ACalls P G f args H n R := by
 unfold absFn at hf
 split at hf
 ·rename_i fn hfn
  split at hf
  ·cases hf
  ·rename_i hname
   split at hf
   ·rename_i c hb
    split at hf
    ·rename_i ac rs hac hrs
     cases hf
     have hl' : args.length ≤ fn.ntmps := hl
     intro w g vs hI hH hn hG hvs
     refine .inl ⟨⟨fn, c, hfn, by simpa using hname, hb⟩, calls_of_wp hfn hb ?_⟩
     have hvl := hvs.length
     simp only [Array.length_toList] at hvl
     have hR : Rel G fn.ntmps ⟨argFr args, H, n⟩ g { tmps := vs ++ Array.replicate (fn.ntmps - vs.size) undef, defers := [] } w := by
      refine ⟨hH, hn, hI, hG, fun s => ?_, by simp; omega, rfl⟩
      show Rep w g (args.getD s .any) _
      rcases Nat.lt_or_ge s args.length with h1 | h1
      ·obtain ⟨v, k1, k2⟩ := hvs.get s args[s] (List.getElem?_eq_getElem h1)
       have h2 : s < vs.size := by omega
       have : (vs ++ Array.replicate (fn.ntmps - vs.size) undef).getD s undef = v := by
        rw [Array.getD_eq_getD_getElem?, Array.getElem?_append_left h2]
        rw [Array.getElem?_toList] at k1
        rw [k1]; rfl
       show Rep w g _ ((vs ++ Array.replicate (fn.ntmps - vs.size) undef).getD s undef)
       rw [this, List.getD_eq_getElem?_getD, List.getElem?_eq_getElem h1]
       exact k2
      ·rw [List.getD_eq_getElem?_getD, List.getElem?_eq_none h1]
       trivial
     refine wp_mono (aw_sound hmix c ac _ _ g _ w hac (h (fun i o hi => by rw [← hn]; exact (hI.lt i o (by rw [hH]; exact hi)).1)) hR) fun e a' w' hq => ?_
     have fin : ∀ (st' : St) (g' : Gh), (∃ r H', ares st'.H st'.fr rs = some r ∧ Sub H' st'.H ∧ R r H' st'.n) → Rel G fn.ntmps st' g' a' w' → Step w g w' g' →
       a'.defers = [] ∧ ∃ v, (results fn a'.tmps).run P w' = .ok v w' ∧ ∃ v_1 r g', Ending.returned v = Ending.returned v_1 ∧ R r g'.H g'.n ∧ Rep w' g' r v_1 ∧ Inv w' g' ∧ Step w g w' g' := by
      rintro st' g' ⟨r, H', k1, k2, k3⟩ hR' hS'
      obtain ⟨u, k4, k5⟩ := res_sound hR' hrs k1
      have hs : Sub H' g'.H := by rw [hR'.H]; exact k2
      refine ⟨hR'.df, u, k4, u, r, g'.less H', rfl, ?_, k5.mono (step_less w' g' hs), inv_less hR'.inv hs, hS'.trans (step_less w' g' hs)⟩
      show R r H' g'.n
      rw [hR'.n]
      exact k3
     cases e with
     | normal => obtain ⟨st', g', k1, k2, k3⟩ := hq; exact fin st' g' k1 k2 k3
     | ret => obtain ⟨st', g', k1, k2, k3⟩ := hq; exact fin st' g' k1 k2 k3
     | exit id => obtain ⟨st', g', k1, k2, k3⟩ := hq; exact k1.elim
     | goto l => exact hq.elim
     | panic c => exact hq.elim
     | outgrown => exact hq.elim
    ·cases hf
   ·cases hf
 ·cases hf
end Go.Ab
