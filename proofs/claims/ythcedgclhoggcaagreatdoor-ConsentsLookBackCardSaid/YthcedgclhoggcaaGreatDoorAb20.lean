/- A part of an abstract logic over the model's runs, proved sound against the model; no condition. -/
import Derived.Test.YthcedgclhoggcaaGreatDoorAb19
import Derived.Deep.Draws
/-! The library's functions by contracts that others have proved; texts. -/
set_option linter.unusedVariables false
namespace Go.Ab
variable {P : Program} {G : Nat → AV} {H : Nat → Option AObj}

theorem enters_of {f : FuncId} {fn : Func} {c : Code} (h1 : P.funcs[f]? = some fn) (h2 : (fn.name == "runtime.NumGoroutine") = false) (h3 : fn.body = some c) : Enters P f := ⟨fn, c, h1, h2, h3⟩
/-- That a function is entered, as a test. -/
def entersB (P : Program) (f : FuncId) : Bool := match P.funcs[f]? with
  | some fn => !(fn.name == "runtime.NumGoroutine") && fn.body.isSome
  | none => false
theorem enters_of_b {f : FuncId} (h : entersB P f = true) : Enters P f := by
  unfold entersB at h
  split at h
  · rename_i fn hf
    simp only [Bool.and_eq_true, Bool.not_eq_true', Option.isSome_iff_exists] at h
    obtain ⟨h1, c, h2⟩ := h
    exact ⟨fn, c, hf, h1, h2⟩
  · cases h
/-- Arguments that are plain values. -/
theorem repList_lits {w : World} {g : Gh} : ∀ {xs : List Value} {vs : List Value}, RepList w g (xs.map .lit) vs → vs = xs
  | [], _, h => h
  | x :: xs, _, ⟨v, vs, h1, h2, h3⟩ => by
    have h2 : v = x := h2
    subst h2
    rw [h1, repList_lits h3]
theorem AFn.of_calls {f : FuncId} (he : Enters P f) {xs : List Value} {v : AV}
    (h : ∀ (w : World) (g : Gh), Inv w g → (∀ k, Rep w g (G k) (.pointer (some ⟨k, 0, none⟩))) → Calls P f xs.toArray w fun e w' => ∃ x, e = .returned x ∧ Rep w' g v x ∧ Inv w' g ∧ Step w g w' g) : AFn P G f (xs.map .lit) H v := by
  intro n w g vs h1 h2 h3 h4 h5
  have : vs = xs.toArray := by
    have := repList_lits h5
    rw [← this]
  subst this
  refine .inl ⟨he, (h w g h1 h4).mono fun e w' ⟨x, k1, k2, k3, k4⟩ => ⟨x, v, g, k1, ⟨rfl, h2⟩, k2, k3, k4⟩⟩
/-- .. of a function that leaves the world. -/
theorem AFn.of_still {f : FuncId} (he : Enters P f) {xs : List Value} {v : Value}
    (h : ∀ (w : World) (g : Gh), (∀ k, Rep w g (G k) (.pointer (some ⟨k, 0, none⟩))) → Calls P f xs.toArray w fun e w' => e = .returned v ∧ w' = w) : AFn P G f (xs.map .lit) H (.lit v) :=
  .of_calls he fun w g hI hG => (h w g hG).mono fun e w' ⟨k1, k2⟩ => ⟨v, k1, rfl, by subst k2; exact ⟨hI, Step.refl _ _⟩⟩
/-- What a variable of the library's holds. -/
theorem glob_cell {w : World} {g : Gh} {k : Nat} {v : Value} {cs : List AV} (hG : G k = .pp (.lit v :: cs)) (h : Rep w g (G k) (.pointer (some ⟨k, 0, none⟩))) : w.cell? ⟨k, 0, none⟩ = some v := by
  rw [hG] at h
  obtain ⟨b, o, h1, h2⟩ := h
  injection h1 with h1
  cases h1
  obtain ⟨_, ⟨v', h3, h4⟩, _⟩ := h2
  have h4 : v' = v := h4
  rw [h3, h4]
theorem step_drewN (w : World) (g : Gh) : ∀ n, Step w g (w.drewN n) g ∧ (Inv w g → Inv (w.drewN n) g) := fun n =>
  ⟨⟨rfl, rfl, rfl, Nat.le_refl _, fun _ _ _ => rfl, fun _ _ arr _ _ _ h => ⟨arr, h, rfl⟩, fun _ h => .inl h, Nat.le_refl _, fun _ _ => rfl, fun _ o' _ h => ⟨o', h, rfl, rfl⟩⟩,
   fun hI => hI.step ⟨rfl, rfl, rfl, Nat.le_refl _, fun _ _ _ => rfl, fun _ _ arr _ _ _ h => ⟨arr, h, rfl⟩, fun _ h => .inl h, Nat.le_refl _, fun _ _ => rfl, fun _ o' _ h => ⟨o', h, rfl, rfl⟩⟩ hI.lt hI.inj fun i o h => .inl ⟨h, rfl⟩⟩
/-- A new block of plain cells, handed back as a slice. -/
theorem new_ls {w : World} {g : Gh} (hI : Inv w g) {xs : List Value} {E : TypeId} {n : Nat} (hn : n = xs.length) (hm : n ≤ maxLen) :
    Rep (w.alloc (.cells xs.toArray E)) g (.ls true (xs.map fun x => [.lit x])) (.slice (some ⟨w.heap.size, 0, none⟩) n n) := by
  subst hn
  refine ⟨some ⟨w.heap.size, 0, none⟩, xs.length, by simp, by simp, hm, rfl, by simp, ?_⟩
  rintro ad ⟨rfl⟩
  refine ⟨rfl, ?_⟩
  have hb : (w.alloc (.cells xs.toArray E)).heap[w.heap.size]? = some (.cells xs.toArray E (0, 0)) := heap_alloc_new' _ _
  have hno : ¬ g.Own w.heap.size := fun h => Nat.lt_irrefl _ (Gh.Own.lt hI h)
  have key : ∀ (ys : List Value) (o : Nat), (∀ j y, ys[j]? = some y → xs[o + j]? = some y) → RepRows (w.alloc (.cells xs.toArray E)) g w.heap.size o (ys.map fun x => [.lit x]) := by
    intro ys
    induction ys with
    | nil => intro o _; trivial
    | cons y ys ih =>
      intro o hh
      refine ⟨⟨hno, ⟨y, cell_of_arr hb ?_, rfl⟩, trivial⟩, ih (o + 1) fun j z hj => ?_⟩
      · have := hh 0 y rfl
        simpa using this
      · have := hh (j + 1) z (by simpa using hj)
        rwa [show o + (j + 1) = o + 1 + j from by omega] at this
  exact key xs 0 fun j y hj => by simpa using hj
end Go.Ab
