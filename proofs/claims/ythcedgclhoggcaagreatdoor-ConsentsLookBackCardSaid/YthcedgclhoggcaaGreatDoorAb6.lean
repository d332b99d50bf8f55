/- A part of an abstract logic over the model's runs, proved sound against the model; no condition. -/
import Derived.Test.YthcedgclhoggcaaGreatDoorAb5
/-! '==' on structs, on booleans, with nil. -/
set_option linter.unusedVariables false
set_option linter.unusedSimpArgs false
namespace Go.Ab
open Go.RowKit
variable {P : Program} {w w' : World} {g g' : Gh} {G : Nat → AV} {N : Nat} {st : St} {a : Act}

def flatFs (P : Program) (rec : TypeId → Option (List SK)) : List Field → Nat → Option (List SK)
  | [], _ => some []
  | f :: fs, off =>
    if f.name == "_" then none else if f.offset = off then match rec f.type, P.info? f.type with
      | some ks, some i => if i.size = ks.length ∧ 0 < i.size then (flatFs P rec fs (off + ks.length)).map (ks ++ ·) else none
      | _, _ => none
    else none
def flatK (P : Program) : Nat → TypeId → Option (List SK)
  | 0, _ => none
  | d + 1, t => match P.underlying t with
    | some .bool => some [.b]
    | some (.int _) => some [.i]
    | some .string => some [.s]
    | some (.struct fs) => if P.stoodInHeld t then none else flatFs P (flatK P d) fs.toList 0
    | _ => none

theorem eqAnd_some {x y : Option Bool} {r : Bool} (h : eqAnd x y = some r) : ∃ a b, x = some a ∧ y = some b ∧ r = (a && b) := by
  cases x <;> cases y <;> simp [eqAnd] at h ⊢
  exact h.symm
theorem eqCells_len : ∀ {ks : List SK} {xs ys : List AV} {r : Bool}, eqCells ks xs ys = some r → xs.length = ks.length ∧ ys.length = ks.length
  | [], [], [], _, _ => ⟨rfl, rfl⟩
  | [], _ :: _, _, _, h => by simp [eqCells] at h
  | [], [], _ :: _, _, h => by simp [eqCells] at h
  | _ :: _, [], _, _, h => by simp [eqCells] at h
  | _ :: _, _ :: _, [], _, h => by simp [eqCells] at h
  | k :: ks, x :: xs, y :: ys, r, h => by
    obtain ⟨a, b, h1, h2, h3⟩ := eqAnd_some h
    have := eqCells_len h2
    simp [this.1, this.2]
theorem eqCells_append : ∀ {k1 ks : List SK} {xs ys : List AV} {r : Bool}, eqCells (k1 ++ ks) xs ys = some r →
    ∃ r1 r2, eqCells k1 (xs.take k1.length) (ys.take k1.length) = some r1 ∧ eqCells ks (xs.drop k1.length) (ys.drop k1.length) = some r2 ∧ r = (r1 && r2)
  | [], ks, xs, ys, r, h => ⟨true, r, by simp [eqCells], by simpa using h, by simp⟩
  | k :: k1, ks, [], _, r, h => by simp [eqCells] at h
  | k :: k1, ks, _ :: _, [], r, h => by simp [eqCells] at h
  | k :: k1, ks, x :: xs, y :: ys, r, h => by
    obtain ⟨a, b, h1, h2, h3⟩ := eqAnd_some h
    obtain ⟨r1, r2, h4, h5, h6⟩ := eqCells_append h2
    refine ⟨a && r1, r2, ?_, by simpa using h5, by rw [h3, h6, Bool.and_assoc]⟩
    simp only [List.length_cons, List.take_succ_cons, eqCells, h1, h4, eqAnd]

/-- A part of a struct: the struct of some of its cells, or its one cell. -/
def valOf (ag : Bool) (vs : List Value) : Value := if ag then .agg vs.toArray else vs.headD undef
theorem part_run {t : TypeId} {i : TypeInfo} {ag : Bool} (hu : aggOf P t = some ag) (hi : P.info? t = some i) (hs : ag = false → i.size = 1) (off : Nat) (cs : Array Value) (hl : off + i.size ≤ cs.size) :
    (part t cs off).run P w = .ok (valOf ag ((cs.toList.drop off).take i.size)) w := by
  cases ag with
  | true =>
    simp only [part, Sem.run_bind, run_isAgg w hu, Result.andThen_ok, if_true, run_sizeOf' w hi, Sem.run_pure, valOf]
    congr 2
    apply Array.ext'
    simp [Array.toList_extract, List.extract_eq_take_drop]
  | false =>
    have h1 := hs rfl
    have h2 : cs[off]? = some cs[off] := Array.getElem?_eq_getElem (by omega)
    simp only [part, Sem.run_bind, run_isAgg w hu, Result.andThen_ok, Bool.false_eq_true, if_false, h2, Sem.run_pure, valOf, h1]
    congr 1
    rw [List.drop_eq_getElem_cons (by simp; omega)]
    simp

/-- What a type's '==' comes to. -/
def EqAs (P : Program) (w : World) (g : Gh) (d : Nat) (t : TypeId) (ks : List SK) : Prop :=
  ∃ ag, aggOf P t = some ag ∧ (ag = false → ks.length = 1) ∧ ∀ d', d ≤ d' → ∀ (ax ay : List AV) (xs ys : List Value) (r : Bool),
    RepList w g ax xs → RepList w g ay ys → eqCells ks ax ay = some r → (Op.equalIn d' t (valOf ag xs) (valOf ag ys)).run P w = .ok r w

theorem eqAs_one {t : TypeId} {d : Nat} {k : SK} (hu : aggOf P t = some false) (h : ∀ (d' : Nat) (x y : AV) (r : Bool) (v u : Value), Rep w g x v → Rep w g y u → eqOne k x y = some r → (Op.equalIn (d' + 1) t v u).run P w = .ok r w) : EqAs P w g (d + 1) t [k] := by
  refine ⟨false, hu, fun _ => rfl, fun d' hd ax ay xs ys r hx hy he => ?_⟩
  obtain ⟨d', rfl⟩ : ∃ e, d' = e + 1 := ⟨d' - 1, by omega⟩
  have hl := eqCells_len he
  match ax, ay, hl with
  | [x], [y], _ =>
    obtain ⟨v, _, rfl, hv, rfl⟩ := hx
    obtain ⟨u, _, rfl, hu2, rfl⟩ := hy
    obtain ⟨a, b, h1, h2, h3⟩ := eqAnd_some he
    simp [eqCells] at h2
    subst h2
    rw [Bool.and_true] at h3
    subst h3
    exact h d' x y r v u hv hu2 h1

theorem eqFields_sound {d : Nat} {rec : TypeId → Option (List SK)} (hrec : ∀ t ks, rec t = some ks → EqAs P w g d t ks) {d' : Nat} (hd : d ≤ d') {ax ay : List AV} {xs ys : Array Value} (hx : RepList w g ax xs.toList) (hy : RepList w g ay ys.toList) :
    ∀ (fs : List Field) (off : Nat) (ks : List SK) (r : Bool), flatFs P rec fs off = some ks → eqCells ks (ax.drop off) (ay.drop off) = some r → (Op.eqFields d' xs ys fs).run P w = .ok r w
  | [], off, ks, r, h, he => by
    simp only [flatFs, Option.some.injEq] at h
    subst h
    have hl := eqCells_len he
    simp only [List.length_nil, List.length_eq_zero_iff] at hl
    rw [hl.1, hl.2] at he
    simp only [eqCells, Option.some.injEq] at he
    subst he
    simp [Op.eqFields]
  | f :: fs, off, ks, r, h, he => by
    simp only [flatFs] at h
    split at h
    · cases h
    · rename_i hname
      split at h
      · rename_i hoff
        split at h
        · rename_i k1 i h1 h2
          split at h
          · rename_i hsz
            obtain ⟨k2, h3, h4⟩ := Option.map_eq_some_iff.1 h
            subst h4
            obtain ⟨r1, r2, h5, h6, h7⟩ := eqCells_append he
            obtain ⟨ag, h8, h9, h10⟩ := hrec _ _ h1
            have hlx := hx.length
            have hly := hy.length
            have hl5 := eqCells_len h5
            simp only [List.length_take, List.length_drop] at hl5
            have hbx : off + i.size ≤ xs.size := by simp at hlx; omega
            have hby : off + i.size ≤ ys.size := by simp at hly; omega
            have hsg : ag = false → i.size = 1 := fun e => by rw [hsz.1]; exact h9 e
            have p1 := part_run (P := P) (w := w) h8 h2 hsg off xs hbx
            have p2 := part_run (P := P) (w := w) h8 h2 hsg off ys hby
            rw [hsz.1] at p1 p2
            have p3 := h10 d' hd _ _ _ _ r1 ((hx.drop off).take k1.length) ((hy.drop off).take k1.length) h5
            have ih := eqFields_sound hrec hd hx hy fs (off + k1.length) k2 r2 h3 (by rw [List.drop_drop, List.drop_drop] at h6; exact h6)
            have hn : f.name ≠ "_" := by simpa using hname
            simp only [Op.eqFields, hn, ne_eq, not_false_eq_true, if_true, Sem.run_bind, hoff, p1, p2, Result.andThen_ok, p3]
            subst h7
            cases r1 <;> simp [ih]
          · cases h
        · cases h
      · cases h

theorem eqK_sound : ∀ (d : Nat) (t : TypeId) (ks : List SK), flatK P d t = some ks → EqAs P w g d t ks
  | 0, t, ks, h => by simp [flatK] at h
  | d + 1, t, ks, h => by
    simp only [flatK] at h
    split at h
    · rename_i hu
      cases h
      refine eqAs_one (by simp [aggOf, hu]) fun d' x y r v u hv hu2 h1 => ?_
      unfold eqOne at h1
      split at h1 <;> simp_all
      cases hv; cases hu2
      simp [Op.equalIn, run_underlying hu, h1]
    · rename_i k hu
      cases h
      refine eqAs_one (by simp [aggOf, hu]) fun d' x y r v u hv hu2 h1 => ?_
      unfold eqOne at h1
      split at h1 <;> simp_all
      cases hv; cases hu2
      simp [Op.equalIn, run_underlying hu, h1]
    · rename_i hu
      cases h
      refine eqAs_one (by simp [aggOf, hu]) fun d' x y r v u hv hu2 h1 => ?_
      unfold eqOne at h1
      split at h1 <;> simp_all
      cases hv; cases hu2
      simp [Op.equalIn, run_underlying hu, h1]
    · rename_i fs hu
      split at h
      · cases h
      · rename_i hst
        refine ⟨true, by simp [aggOf, hu], fun h => (by cases h), fun d' hd ax ay xs ys r hx hy he => ?_⟩
        obtain ⟨d', rfl⟩ : ∃ e, d' = e + 1 := ⟨d' - 1, by omega⟩
        have hf : P.fieldsOf t = fs := by simp [Program.fieldsOf, hu]
        simp only [valOf, if_true]
        rw [run_equalIn_struct w d' t _ _ (by rw [hf]; exact hu) (by simpa using hst), hf]
        exact eqFields_sound (fun t ks h => eqK_sound d t ks h) (by omega) (by simpa using hx) (by simpa using hy) _ 0 ks r h (by simpa using he)
    · cases h

def EqOk (P : Program) (t : TypeId) : EqK → Prop
  | .bool => P.underlying t = some .bool
  | .slice => ∃ e, P.underlying t = some (.slice e)
  | .ptr => ∃ e, P.underlying t = some (.pointer e)
  | .cells ks => flatK P 50 t = some ks ∧ aggOf P t = some true ∧ P.eqGuardType P.depth t = false
theorem equal_succ : ∃ d, 50 ≤ d ∧ ∀ t x y, Op.equal t x y = Op.equalIn (d + 1) t x y := ⟨9999, by omega, fun t x y => by unfold Op.equal; rw [show Op.maxDepth = 9999 + 1 from rfl]⟩
theorem eq_sound (t : TypeId) (op : BinOp) (neg : Bool) (hop : op = if neg then .neq else .eql) (xo yo : Operand) {k : EqK}
    (hk : EqOk P t k)
    {p q : AV} {pv qv : Value} (hp : Rep w g p pv) (hq : Rep w g q qv) {b : Bool} (h : aeq k p q = some b) :
    (do eqGuard op t xo yo pv qv; binOp op t pv qv).run P w = .ok (.bool (nego neg b)) w := by
  have key : (Op.equal t pv qv).run P w = .ok b w ∧ ((∀ xs ys, pv = .agg xs → qv = .agg ys → P.eqGuardType P.depth t = false) ∧ (pv ≠ .nilIface) ∧ (∀ k n, pv ≠ .int k n) ∧ (∀ k n, pv ≠ .float k n) ∧ (∀ k n m, pv ≠ .complex k n m) ∧ (∀ s, pv ≠ .string s)) := by
    obtain ⟨d, hd, hequal⟩ := equal_succ
    rw [hequal]
    unfold aeq at h
    split at h
    · cases hp; cases hq; cases h
      have hk : P.underlying t = some .bool := hk
      exact ⟨by simp [Op.equalIn, run_underlying hk], by simp⟩
    · obtain ⟨e, hk⟩ := hk
      obtain ⟨a1, c1, rfl, _, _, h3, _⟩ := hp
      obtain ⟨a2, c2, rfl, _, _, h4, _⟩ := hq
      cases h
      cases a2 <;> simp at h4
      cases a1 <;> simp at h3 <;> subst h3
      · exact ⟨by simp [Op.equalIn, run_underlying hk], by simp⟩
      · exact ⟨by simp [Op.equalIn, run_underlying hk], by simp⟩
    · obtain ⟨hk1, hk2, hk3⟩ := hk
      obtain ⟨xs, rfl, hx⟩ := hp
      obtain ⟨ys, rfl, hy⟩ := hq
      obtain ⟨ag, h1, _, h2⟩ := eqK_sound (w := w) (g := g) 50 t _ hk1
      rw [hk2] at h1
      cases h1
      have := h2 (d + 1) (by omega) _ _ _ _ b hx hy h
      exact ⟨by simpa [valOf] using this, by simp [hk3]⟩
    · obtain ⟨e, hk⟩ := hk
      obtain ⟨b1, o1, rfl, _⟩ := hp
      cases hq; cases h
      exact ⟨by simp [Op.equalIn, run_underlying hk], by simp⟩
    · obtain ⟨e, hk⟩ := hk
      obtain ⟨⟨ad, rfl⟩, _⟩ := hp
      cases hq; cases h
      exact ⟨by simp [Op.equalIn, run_underlying hk], by simp⟩
    · obtain ⟨e, hk⟩ := hk
      cases hp; cases hq; cases h
      exact ⟨by simp [Op.equalIn, run_underlying hk], by simp⟩
    · cases h
  obtain ⟨k1, k2, k3, k4, k5, k6, k7⟩ := key
  have hg : (eqGuard op t xo yo pv qv).run P w = .ok () w := by
    subst hop
    unfold eqGuard
    cases neg <;> (cases pv <;> cases qv <;> simp_all)
  have hb : (binOp op t pv qv).run P w = .ok (.bool (nego neg b)) w := by
    subst hop
    cases neg
    · cases pv <;> simp_all [binOp, nego]
    · cases pv <;> simp_all [binOp, nego]
  simp [hg, hb]
end Go.Ab
