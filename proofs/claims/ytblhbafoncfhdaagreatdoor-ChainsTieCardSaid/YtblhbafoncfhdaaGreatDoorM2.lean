/- Contracts of functions of the program: each computes what its model says; the conditions stand at each. -/
import Derived.Test.YtblhbafoncfhdaaGreatDoorR1
import Derived.Test.YtblhbafoncfhdaaGreatDoorMk6
import Derived.Test.YtblhbafoncfhdaaGreatDoorM3
set_option linter.unusedSimpArgs false
set_option linter.unusedVariables false
set_option maxRecDepth 20000
namespace Go.Proofs.YtblhbafoncfhdaaGreatDoor
open Go Go.Ab Go.Pm Go.Cm Go.El Go.Rm Go.Pp Go.Uf
variable (G : Nat → AV) (H : Nat → Option AObj)
def kRows : List (List AV) := [[.ls true [[.int 1], [.int 2]]], [.ls true [[.int 1], [.int 2], [.int 3], [.int 4]]], [.ls true [[.int 1]]], [.ls true [[.int 2], [.int 3]]], [.ls true [[.int 4]]]]
def tRows : List (List AV) := [[.ls false []], [.ls true [[.int 2], [.int 1]]], [.ls true [[.int 0]]], [.ls true [[.int 5]]], [.ls true [[.int 1], [.int 1]]]]
theorem pick5 {rows : List (List AV)} {ks : List (Bool × List Int)} (hr : rows = ks.map fun k => [AV.ls k.1 (k.2.map fun x => [AV.int x])]) (hl : ∀ k ∈ ks, k.2.length ≤ 1000) (w : Int) (h0 : 0 ≤ w) (h1 : w < ks.length) : ∃ (nzk : Bool) (kinds : List Int), kinds.length ≤ 1000 ∧ ∀ H2, aidx H2 1 (.ls true rows) (.int w) = some (.pp [.ls nzk (kinds.map fun x => [AV.int x])]) := by
 obtain ⟨j, rfl⟩ : ∃ j : Nat, w = j := ⟨w.toNat, by omega⟩
 have hj : j < ks.length := by omega
 refine ⟨(ks[j]).1, (ks[j]).2, hl _ (List.getElem_mem _), fun H2 => ?_⟩
 rw [hr]
 exact aidx_at rfl (List.getElem?_eq_getElem hj)
def sRows : List (List AV) := [[.ls false []], [.ls true [[.str ⟨#[115, 104, 111, 112]⟩]]], [.ls true [[.str ⟨#[100, 101, 115, 107]⟩], [.str ⟨#[115, 104, 111, 112]⟩]]], [.ls true [[.str ⟨#[97, 112, 112]⟩], [.str ⟨#[110, 111, 119, 104, 101, 114, 101]⟩], [.str ⟨#[100, 101, 115, 107]⟩]]]]
theorem pickS {rows : List (List AV)} {ks : List (Bool × List T)} (hr : rows = ks.map fun k => [AV.ls k.1 (k.2.map fun x => [AV.str x])]) (hl : ∀ k ∈ ks, k.2.length ≤ 10 ∧ ∀ x ∈ k.2, x.size ≤ 1000) (w : Int) (h0 : 0 ≤ w) (h1 : w < ks.length) : ∃ (nzk : Bool) (srcs : List T), srcs.length ≤ 10 ∧ (∀ x ∈ srcs, x.size ≤ 1000) ∧ ∀ H2, aidx H2 1 (.ls true rows) (.int w) = some (.pp [.ls nzk (srcs.map fun x => [AV.str x])]) := by
 obtain ⟨j, rfl⟩ : ∃ j : Nat, w = j := ⟨w.toNat, by omega⟩
 have hj : j < ks.length := by omega
 refine ⟨(ks[j]).1, (ks[j]).2, (hl _ (List.getElem_mem _)).1, (hl _ (List.getElem_mem _)).2, fun H2 => ?_⟩
 rw [hr]
 exact aidx_at rfl (List.getElem?_eq_getElem hj)
theorem qs_sub {H Hc HF : Nat → Option AObj} {i n : Nat} {x : AObj} (hq : Qs H Hc i n) (hs : Ab.Sub (hu Hc i (some x)) HF) : Qs H HF i n := ⟨fun j y hj hy => hs _ _ (by rw [hu_ne hj]; exact hq.1 j y hj hy), hq.2⟩
structure Jr (H : Nat → Option AObj) (nz : Bool) (l : List Int) (a : Int) (i n na : Nat) (H' : Nat → Option AObj) (N : Nat) (q : Rls) (wid sid : Option Nat) (a9 : Int) : Prop where
 row : H' na = some ⟨44, 4, [[.ls q.nzk (q.kinds.map fun x => [AV.int x]), .int q.most, outAV wid q.weak.length, outAV sid q.srv.length]]⟩
 res : H' n = some ⟨44, 4, [[.ls false [], .int 0, .ls false [], .ls false []]]⟩
 sm : RlsSm q
 w : OutIs (n + 1) H' wid 55 2 (q.weak.map Idn.c) N
 s : OutIs (n + 1) H' sid 210 3 (q.srv.map Srv.c) N
 wne : wid ≠ none → q.weak ≠ []
 sne : sid ≠ none → q.srv ≠ []
 qs : Qs H H' i n
 str : H' i = some (strm (LL nz l) a9)
 lo : a ≤ a9
 na : n + 1 ≤ na ∧ na < N
theorem keepO {n0 N N' : Nat} {H1 HF : Nat → Option AObj} {oid : Option Nat} {E sz : Nat} {rows : List (List AV)} (h : OutIs n0 H1 oid E sz rows N) (hk : ∀ o, oid = some o → HF o = H1 o) (hN : N ≤ N') : OutIs n0 HF oid E sz rows N' := by
 cases oid with
 | none => exact h
 | some o => exact ⟨by rw [hk o rfl]; exact h.1, h.2.1, by have := h.2.2; omega⟩
section
variable {nz : Bool} {l : List Int} {a : Int} {i n na : Nat} {H1 HF : Nat → Option AObj} {N : Nat} {q : Rls} {wid sid : Option Nat} {a9 a10 : Int} {nn : Nat}
variable {H}
theorem Jr.wna (hj : Jr H nz l a i n na H1 N q wid sid a9) (o : Nat) (h : wid = some o) : n + 1 ≤ o ∧ o < N ∧ o ≠ na ∧ o ≠ i ∧ sid ≠ some o := by
 have hw := hj.w
 rw [h] at hw
 refine ⟨hw.2.1, hw.2.2, fun e => ?_, fun e => ?_, fun e => ?_⟩
 ·have h1 := hw.1; rw [e, hj.row] at h1; simp at h1
 ·have h1 := hw.2.1; have h2 := hj.qs.2.2; omega
 ·have hs := hj.s
  rw [e] at hs
  have h1 := hw.1; rw [hs.1] at h1; simp at h1
theorem Jr.sna (hj : Jr H nz l a i n na H1 N q wid sid a9) (o : Nat) (h : sid = some o) : n + 1 ≤ o ∧ o < N ∧ o ≠ na ∧ o ≠ i ∧ wid ≠ some o := by
 have hw := hj.s
 rw [h] at hw
 refine ⟨hw.2.1, hw.2.2, fun e => ?_, fun e => ?_, fun e => ?_⟩
 ·have h1 := hw.1; rw [e, hj.row] at h1; simp at h1
 ·have h1 := hw.2.1; have h2 := hj.qs.2.2; omega
 ·have hs := hj.w
  rw [e] at hs
  have h1 := hw.1; rw [hs.1] at h1; simp at h1
theorem Jr.inn (hj : Jr H nz l a i n na H1 N q wid sid a9) : i < n ∧ n ≠ na ∧ n < N ∧ na ≠ i := by
 have h1 := hj.qs.2.2
 have h2 := hj.na
 omega
theorem Jr.qs' (hj : Jr H nz l a i n na H1 N q wid sid a9) (hk : ∀ j, j < n → j ≠ i → HF j = H1 j) : Qs H HF i n :=
 ⟨fun j x hj1 hx => by rw [hk j (hj.qs.2.1 j x hx) hj1]; exact hj.qs.1 j x hj1 hx, hj.qs.2⟩
theorem Jr.go (hj : Jr H nz l a i n na H1 N q wid sid a9) (h3 : HF i = some (strm (LL nz l) a10)) (ha : a9 ≤ a10) {N2 : Nat} (hN : N ≤ N2) (hk : ∀ j, j < N → j ≠ i → HF j = H1 j) : Jr H nz l a i n na HF N2 q wid sid a10 := by
 obtain ⟨h1, h2, h4, h5⟩ := hj.inn
 have h6 := hj.na
 exact ⟨by rw [hk na h6.2 h5]; exact hj.row, by rw [hk n h4 (by omega)]; exact hj.res, hj.sm, keepO hj.w (fun o h => hk o (hj.wna o h).2.1 (hj.wna o h).2.2.2.1) hN, keepO hj.s (fun o h => hk o (hj.sna o h).2.1 (hj.sna o h).2.2.2.1) hN, hj.wne, hj.sne, hj.qs' (fun j h7 h8 => hk j (by omega) h8), h3, by have := hj.lo; omega, by omega⟩
theorem Jr.put (hj : Jr H nz l a i n na H1 N q wid sid a9) {q2 : Rls} (hw : q2.weak = q.weak) (hs : q2.srv = q.srv) (hsm : RlsSm q2) (h2' : HF na = some ⟨44, 4, [[.ls q2.nzk (q2.kinds.map fun x => [AV.int x]), .int q2.most, outAV wid q2.weak.length, outAV sid q2.srv.length]]⟩) (hk : ∀ j, j < N → j ≠ na → HF j = H1 j) : Jr H nz l a i n na HF N q2 wid sid a9 := by
 obtain ⟨h1, h2, h4, h5⟩ := hj.inn
 have h6 := hj.na
 exact ⟨h2', by rw [hk n h4 h2]; exact hj.res, hsm, by rw [hw]; exact keepO hj.w (fun o h => hk o (hj.wna o h).2.1 (hj.wna o h).2.2.1) (Nat.le_refl _), by rw [hs]; exact keepO hj.s (fun o h => hk o (hj.sna o h).2.1 (hj.sna o h).2.2.1) (Nat.le_refl _), by rw [hw]; exact hj.wne, by rw [hs]; exact hj.sne, hj.qs' (fun j h7 h8 => hk j (by omega) (by omega)), by rw [hk i (by omega) (fun e => h5 e.symm)]; exact hj.str, hj.lo, hj.na⟩
theorem Jr.more (hj : Jr H nz l a i n na H1 N q wid sid a9) (hnn : N ≤ nn) (s : Srv) (hs : s.srcs.length ≤ 1000 ∧ s.name.size ≤ 1000 ∧ ∀ x ∈ s.srcs, x.size ≤ 1000) (hl : q.srv.length ≤ 900)
  (h1 : HF nn = some ⟨210, 3, (q.srv ++ [s]).map Srv.c⟩) (h2' : HF na = some ⟨44, 4, [[.ls q.nzk (q.kinds.map fun x => [AV.int x]), .int q.most, outAV wid q.weak.length, .os nn 0 (q.srv.length + 1)]]⟩) (h3 : HF i = some (strm (LL nz l) a10)) (ha : a9 ≤ a10)
  (hk : ∀ j, j < N → j ≠ na → j ≠ i → sid ≠ some j → HF j = H1 j) : Jr H nz l a i n na HF (nn + 1) { q with srv := q.srv ++ [s] } wid (some nn) a10 := by
 obtain ⟨i1, i2, i4, i5⟩ := hj.inn
 have h6 := hj.na
 have hsid : ∀ j, j < n + 1 → sid ≠ some j := fun j hlt e => by have := (hj.sna j e).1; omega
 refine ⟨by rw [h2']; simp [outAV], by rw [hk n i4 i2 (by omega) (hsid n (by omega))]; exact hj.res, ⟨hj.sm.weak, ⟨hj.sm.few.1, hj.sm.few.2.1, by simp; omega⟩, fun x hx => ?_⟩, keepO hj.w (fun o h => hk o (hj.wna o h).2.1 (hj.wna o h).2.2.1 (hj.wna o h).2.2.2.1 (hj.wna o h).2.2.2.2) (by omega), ⟨h1, by omega, by omega⟩, hj.wne, fun _ => by simp, hj.qs' (fun j h7 h8 => hk j (by omega) (by omega) h8 (hsid j (by omega))), h3, by have := hj.lo; omega, by omega⟩
 rcases List.mem_append.1 hx with hx | hx
 ·exact hj.sm.srv x hx
 ·simp only [List.mem_singleton] at hx; subst hx; exact hs
theorem Jr.weak (hj : Jr H nz l a i n na H1 N q wid sid a9) (hnn : N ≤ nn) (x : Idn) (hx : x.text.size ≤ 1000) (hl : q.weak.length ≤ 900)
  (h1 : HF nn = some ⟨55, 2, (q.weak ++ [x]).map Idn.c⟩) (h2' : HF na = some ⟨44, 4, [[.ls q.nzk (q.kinds.map fun x => [AV.int x]), .int q.most, .os nn 0 (q.weak.length + 1), outAV sid q.srv.length]]⟩) (h3 : HF i = some (strm (LL nz l) a10)) (ha : a9 ≤ a10)
  (hk : ∀ j x, j < N → j ≠ na → j ≠ i → wid ≠ some j → H1 j = some x → HF j = some x) : Jr H nz l a i n na HF (nn + 1) { q with weak := q.weak ++ [x] } (some nn) sid a10 := by
 obtain ⟨i1, i2, i4, i5⟩ := hj.inn
 have h6 := hj.na
 have hwid : ∀ j, j < n + 1 → wid ≠ some j := fun j hlt e => by have := (hj.wna j e).1; omega
 refine ⟨by rw [h2']; simp [outAV], hk n _ i4 i2 (by omega) (hwid n (by omega)) hj.res, ⟨fun y hy => ?_, ⟨hj.sm.few.1, by simp; omega, hj.sm.few.2.2⟩, hj.sm.srv⟩, ⟨h1, by omega, by omega⟩, keepO hj.s (fun o h => ?_) (by omega), fun _ => by simp, hj.sne, ⟨fun j y hj1 hy => hk j y (by have := hj.qs.2.1 j y hy; omega) (by have := hj.qs.2.1 j y hy; omega) hj1 (hwid j (by have := hj.qs.2.1 j y hy; omega)) (hj.qs.1 j y hj1 hy), hj.qs.2⟩, h3, by have := hj.lo; omega, by omega⟩
 ·rcases List.mem_append.1 hy with hy | hy
  ·exact hj.sm.weak y hy
  ·simp only [List.mem_singleton] at hy; subst hy; exact hx
 ·obtain ⟨s1, s2, s3, s4, s5⟩ := hj.sna o h
  have hs := hj.s
  rw [h] at hs
  rw [hs.1]
  exact hk o _ s2 s3 s4 s5 hs.1
theorem outW {n0 m0 : Nat} {H1 : Nat → Option AObj} {oid : Option Nat} {E sz : Nat} {rows : List (List AV)} {N : Nat} (h : OutIs n0 H1 oid E sz rows N) (hm : m0 ≤ n0) : OutIs m0 H1 oid E sz rows N := by
 cases oid with
 | none => exact h
 | some o => exact ⟨h.1, by have := h.2.1; omega, h.2.2⟩
theorem Jr.fin (hj : Jr H nz l a i n na H1 N q wid sid a9) (h9 : a9 ≤ a + 300) (hwk : q.weak.length ≤ 10 ∨ 200 < q.weak.length) (x : Option AObj) {r : AV} (hr : r = .agg [.ls q.nzk (q.kinds.map fun x => [AV.int x]), .int q.most, outAV wid q.weak.length, outAV sid q.srv.length]) : ∃ a' q' wid' sid', a ≤ a' ∧ a' ≤ a + 300 ∧ RlsSm q' ∧ (q'.weak.length ≤ 10 ∨ 200 < q'.weak.length) ∧ r = .agg [.ls q'.nzk (q'.kinds.map fun x => [AV.int x]), .int q'.most, outAV wid' q'.weak.length, outAV sid' q'.srv.length] ∧ OutIs n (hu H1 n x) wid' 55 2 (q'.weak.map Idn.c) N ∧ OutIs n (hu H1 n x) sid' 210 3 (q'.srv.map Srv.c) N ∧ (wid' ≠ none → q'.weak ≠ []) ∧ (sid' ≠ none → q'.srv ≠ []) ∧ Ab.Sub (hu H i (some (strm (LL nz l) a'))) (hu H1 n x) := by
 obtain ⟨i1, i2, i4, i5⟩ := hj.inn
 refine ⟨a9, q, wid, sid, hj.lo, h9, hj.sm, hwk, hr, outW (keepO hj.w (fun o h => hu_ne (by have := (hj.wna o h).1; omega)) (Nat.le_refl _)) (by omega), outW (keepO hj.s (fun o h => hu_ne (by have := (hj.sna o h).1; omega)) (Nat.le_refl _)) (by omega), hj.wne, hj.sne, fun j y hy => ?_⟩
 by_cases e : j = i
 ·subst e
  rw [hu_same] at hy
  rw [hu_ne (by omega), ← hy]
  exact hj.str
 ·rw [hu_ne e] at hy
  rw [hu_ne (by have := hj.qs.2.1 j y hy; omega)]
  exact hj.qs.1 j y e hy
end
set_option maxHeartbeats 6400000 in
theorem joinRules_run (hU : GU G) (hP : G 1 = .pp poolC) (nz : Bool) (l : List Int) (a : Int) (i : Nat) (hi : H i = some (strm (LL nz l) a)) (ha : 0 ≤ a ∧ a ≤ 1099511620000) (n : Nat) : ACalls Tryz.prog G 78 [.op i 0 0] H n fun r H' n' => ∃ a' q wid sid, a ≤ a' ∧ a' ≤ a + 300 ∧ RlsSm q ∧ (q.weak.length ≤ 10 ∨ 200 < q.weak.length) ∧ r = .agg [.ls q.nzk (q.kinds.map fun x => [AV.int x]), .int q.most, outAV wid q.weak.length, outAV sid q.srv.length] ∧ OutIs n H' wid 55 2 (q.weak.map Idn.c) n' ∧ OutIs n H' sid 210 3 (q.srv.map Srv.c) n' ∧ (wid ≠ none → q.weak ≠ []) ∧ (sid ≠ none → q.srv ≠ []) ∧ Ab.Sub (hu H i (some (strm (LL nz l) a'))) H' := by
  have hG := hU.ok
  refine ACalls.start mix F78 (by simp) fun hlow => ?_
  have hq := Qs.refl hi hlow
  have hin := hq.2.2
  simp (disch := omega) only [↓wpre, push_cast, seval, c78]
  refine xw_freg noH (of_eq_true (sub_noH _)) ?_
  refine xf_mono (u := ⟨⟩) (K := fun st => st.fr 0 = .op i 0 0 ∧ st.fr 2 = .op n 0 0 ∧ ∃ na q wid a9, st.fr 3 = .op na 0 0 ∧ q.srv = [] ∧ a9 ≤ a + 60 ∧ q.weak.length ≤ 3 ∧ Jr H nz l a i n na st.H st.n q wid none a9) ?_ ?_
  · simp (disch := omega) only [↓wpre, push_cast, seval, List.map_cons, List.map_nil]
    have hev : Even 1 kRows = True := eq_true (by intro r hr; simp [kRows] at hr; rcases hr with rfl | rfl | rfl | rfl | rfl <;> exact ⟨rfl, rfl⟩)
    refine xsp_intro ?_ ?_
    all_goals
      refine (next_c G _ nz l a 5 i (by simp (disch := omega) only [↓wpre, push_cast, seval, hi]) ⟨by omega, by omega⟩ (by omega)).x fun r a3 n3 hn3 k1 k2 k3 => ?_
      obtain ⟨w, rfl, hw⟩ := k3
      obtain ⟨nzk, kinds, hkl, hki⟩ := pick5 (rows := kRows) (ks := [(true, [1, 2]), (true, [1, 2, 3, 4]), (true, [1]), (true, [2, 3]), (true, [4])]) rfl (by decide) w hw.1 hw.2
      unfold kRows at hki hev
      simp (disch := omega) only [↓wpre, push_cast, seval, hi, hw, hev, hki, List.map_cons, List.map_nil]
      try refine xsp_intro ?_ ?_
    all_goals
      refine (pick_c G _ nz true l a3 i (by first | exact hu_same | simp (disch := omega) only [↓wpre, push_cast, seval, hi]) ⟨by omega, by omega⟩ [2, 3, 4, 2000] (by simp) (by simp)).x fun r a4 n4 hn4 k1' k2' k3 => ?_
      obtain ⟨most, rfl, hmost⟩ := k3
      simp (disch := omega) only [↓wpre, push_cast, seval, hi, hu_hu, List.map_cons, List.map_nil]
      try refine xsp_intro ?_ ?_
    all_goals
      refine (pick_c G _ nz true l a4 i (by first | exact hu_same | simp (disch := omega) only [↓wpre, push_cast, seval, hi]) ⟨by omega, by omega⟩ [0, 0, 0, 1, 2] (by simp) (by simp)).x fun r a5 n5 hn5 m1 m2 m3 => ?_
      obtain ⟨many, rfl, hmany⟩ := m3
      have hm3 : 0 ≤ many ∧ many ≤ 3 := by simp at hmany; omega
      simp (disch := omega) only [↓wpre, push_cast, seval, hi, hu_hu, List.map_cons, List.map_nil]
      try refine xsp_intro ?_ ?_
    all_goals
      refine ACalls.x (ACalls.lowp (ids_run G _ hG hP nz l a5 many i (by first | exact hu_same | simp (disch := omega) only [↓wpre, push_cast, seval, hi]) ⟨by omega, by omega⟩ hm3 _)) fun r H3 n6 ⟨⟨a6, ids, m1', m2', hids, hidl, hsub, hor⟩, hn6, hlow3⟩ => ?_
      obtain ⟨wid, rfl, hwo, hwne⟩ : ∃ wid, r = outAV wid ids.length ∧ OutIs (n + 1) H3 wid 55 2 (ids.map Idn.c) n6 ∧ (wid ≠ none → ids ≠ []) := by
        rcases hor with ⟨hd0, hr⟩ | ⟨o, hr, ho1, ho2, ho3⟩
        · exact ⟨none, hr, by rw [hd0]; rfl, fun h => absurd rfl h⟩
        · exact ⟨some o, hr, ⟨ho1, by omega, hlow3 o _ ho1⟩, fun _ => ho3⟩
      have hres : H3 n = some ⟨44, 4, [[.ls false [], .int 0, .ls false [], .ls false []]]⟩ := by
        refine hsub _ _ ?_
        repeat rw [hu_ne (by omega)]
        exact hu_same
      first
        | (have hna : H3 (n + 1) = some ⟨44, 4, [[.ls false [], .int 0, .ls false [], .ls false []]]⟩ := by
              refine hsub _ _ ?_
              repeat rw [hu_ne (by omega)]
              exact hu_same
           simp (disch := omega) only [↓wpre, push_cast, seval, hna, hu_hu, List.map_cons, List.map_nil]
           refine ⟨n + 1, ⟨nzk, kinds, most, true, ids, false, []⟩, wid, a6, rfl, rfl, by omega, hidl, ⟨by rw [hu_same]; rfl, by rw [hu_ne (by omega)]; exact hres, ⟨hids, ⟨hkl, by dsimp only; omega, by simp⟩, by simp⟩, ?_, rfl, hwne, fun h => absurd rfl h, ?_, ?_, by omega, by omega⟩⟩
           · cases wid with
             | none => exact hwo
             | some o =>
               have hne : o ≠ n + 1 := fun e => by rw [e] at hwo; have := hwo.1; rw [hna] at this; simp at this
               exact ⟨by rw [hu_ne hne]; exact hwo.1, hwo.2.1, by have := hwo.2.2; omega⟩
           · exact Qs.new (qs_sub (hq := by (repeat (first | exact hq | refine Qs.put ?_ | refine Qs.new ?_ (by omega)))) hsub) (by omega)
           · rw [hu_ne (by omega)]
             exact hsub i _ hu_same)
        | (have hna : H3 (n3) = some ⟨44, 4, [[.ls false [], .int 0, .ls false [], .ls false []]]⟩ := by
              refine hsub _ _ ?_
              repeat rw [hu_ne (by omega)]
              exact hu_same
           simp (disch := omega) only [↓wpre, push_cast, seval, hna, hu_hu, List.map_cons, List.map_nil]
           refine ⟨n3, ⟨nzk, kinds, most, true, ids, false, []⟩, wid, a6, rfl, rfl, by omega, hidl, ⟨by rw [hu_same]; rfl, by rw [hu_ne (by omega)]; exact hres, ⟨hids, ⟨hkl, by dsimp only; omega, by simp⟩, by simp⟩, ?_, rfl, hwne, fun h => absurd rfl h, ?_, ?_, by omega, by omega⟩⟩
           · cases wid with
             | none => exact hwo
             | some o =>
               have hne : o ≠ n3 := fun e => by rw [e] at hwo; have := hwo.1; rw [hna] at this; simp at this
               exact ⟨by rw [hu_ne hne]; exact hwo.1, hwo.2.1, by have := hwo.2.2; omega⟩
           · exact Qs.new (qs_sub (hq := by (repeat (first | exact hq | refine Qs.put ?_ | refine Qs.new ?_ (by omega)))) hsub) (by omega)
           · rw [hu_ne (by omega)]
             exact hsub i _ hu_same)
        | (have hna : H3 (n4) = some ⟨44, 4, [[.ls false [], .int 0, .ls false [], .ls false []]]⟩ := by
              refine hsub _ _ ?_
              repeat rw [hu_ne (by omega)]
              exact hu_same
           simp (disch := omega) only [↓wpre, push_cast, seval, hna, hu_hu, List.map_cons, List.map_nil]
           refine ⟨n4, ⟨nzk, kinds, most, true, ids, false, []⟩, wid, a6, rfl, rfl, by omega, hidl, ⟨by rw [hu_same]; rfl, by rw [hu_ne (by omega)]; exact hres, ⟨hids, ⟨hkl, by dsimp only; omega, by simp⟩, by simp⟩, ?_, rfl, hwne, fun h => absurd rfl h, ?_, ?_, by omega, by omega⟩⟩
           · cases wid with
             | none => exact hwo
             | some o =>
               have hne : o ≠ n4 := fun e => by rw [e] at hwo; have := hwo.1; rw [hna] at this; simp at this
               exact ⟨by rw [hu_ne hne]; exact hwo.1, hwo.2.1, by have := hwo.2.2; omega⟩
           · exact Qs.new (qs_sub (hq := by (repeat (first | exact hq | refine Qs.put ?_ | refine Qs.new ?_ (by omega)))) hsub) (by omega)
           · rw [hu_ne (by omega)]
             exact hsub i _ hu_same)
        | (have hna : H3 (n5) = some ⟨44, 4, [[.ls false [], .int 0, .ls false [], .ls false []]]⟩ := by
              refine hsub _ _ ?_
              repeat rw [hu_ne (by omega)]
              exact hu_same
           simp (disch := omega) only [↓wpre, push_cast, seval, hna, hu_hu, List.map_cons, List.map_nil]
           refine ⟨n5, ⟨nzk, kinds, most, true, ids, false, []⟩, wid, a6, rfl, rfl, by omega, hidl, ⟨by rw [hu_same]; rfl, by rw [hu_ne (by omega)]; exact hres, ⟨hids, ⟨hkl, by dsimp only; omega, by simp⟩, by simp⟩, ?_, rfl, hwne, fun h => absurd rfl h, ?_, ?_, by omega, by omega⟩⟩
           · cases wid with
             | none => exact hwo
             | some o =>
               have hne : o ≠ n5 := fun e => by rw [e] at hwo; have := hwo.1; rw [hna] at this; simp at this
               exact ⟨by rw [hu_ne hne]; exact hwo.1, hwo.2.1, by have := hwo.2.2; omega⟩
           · exact Qs.new (qs_sub (hq := by (repeat (first | exact hq | refine Qs.put ?_ | refine Qs.new ?_ (by omega)))) hsub) (by omega)
           · rw [hu_ne (by omega)]
             exact hsub i _ hu_same)
        | (simp (disch := omega) only [↓wpre, push_cast, seval, hu_hu, List.map_cons, List.map_nil]
           refine ⟨n6, ⟨nzk, kinds, most, true, ids, false, []⟩, wid, a6, rfl, rfl, by omega, hidl, ⟨by rw [hu_same]; rfl, by rw [hu_ne (by omega)]; exact hres, ⟨hids, ⟨hkl, by dsimp only; omega, by simp⟩, by simp⟩, ?_, rfl, hwne, fun h => absurd rfl h, ?_, ?_, by omega, by omega⟩⟩
           · cases wid with
             | none => exact hwo
             | some o =>
               have hne : o ≠ n6 := by have := hwo.2.2; omega
               exact ⟨by rw [hu_ne hne]; exact hwo.1, hwo.2.1, by have := hwo.2.2; omega⟩
           · exact Qs.new (qs_sub (hq := by (repeat (first | exact hq | refine Qs.put ?_ | refine Qs.new ?_ (by omega)))) hsub) (by omega)
           · rw [hu_ne (by omega)]
             exact hsub i _ hu_same)
  · rintro ⟨fr, H1, n1⟩ ⟨h0, h2, na, q, wid, a9, h3, hsrv, ha9, hwl, hj⟩
    dsimp only at h0 h2 h3 hj
    simp (disch := omega) only [↓wpre, push_cast, seval, h0, h2, h3, hG.fields, List.length_map, fld_len, fld_take]
    refine xw_loopJ (σ := Rls × Option Nat × Option Nat × Int × Nat) (fun t => [(0, .op i 0 0), (2, .op n 0 0), (3, .op na 0 0), (26, .agg (fldNames.map AV.str)), (27, .int t.2.2.2.2)]) (fun t H' n' => Jr H nz l a i n na H' n' t.1 t.2.1 t.2.2.1 t.2.2.2.1 ∧ t.2.2.2.2 ≤ 6 ∧ t.1.srv.length ≤ t.2.2.2.2 ∧ t.2.2.2.1 ≤ a + 60 + 5 * (t.2.2.2.2 : Int) ∧ t.1.weak.length ≤ 3) (fun t => 6 - t.2.2.2.2) (q, wid, none, a9, 0) ⟨hj, Nat.zero_le _, by simp [hsrv], by simpa using ha9, hwl⟩ (by simp (disch := omega) only [↓wpre, push_cast, seval, h0, h2, h3]; try rfl) ?_
    clear hj h0 h2 h3 hsrv ha9 hwl
    rintro ⟨q, wid, sid, a9, j⟩ fr H1 n1 ⟨hj, hj6, hsl, ha9, hwl⟩ hh
    simp only [has_nil, has_cons, and_true] at hh hj hj6 hsl ha9 hwl
    have hrow := hj.row
    have hstr := hj.str
    obtain ⟨i1, i2, i4, i5⟩ := hj.inn
    have hna := hj.na
    have hlo := hj.lo
    by_cases hlt : (j : Int) < 6
    · obtain ⟨x, hx, hxs⟩ := fld_at j (by omega)
      have hj0 : (0 : Int) ≤ (j : Int) := by omega
      have hcell : (List.map AV.str fldNames)[j]? = some (.str x) := by rw [List.getElem?_map, hx]; rfl
      simp (disch := omega) only [↓wpre, push_cast, seval, hh, hlt, hj0, hcell, Int.toNat_natCast, Nat.mul_one]
      refine (flip_c G _ nz l a9 2 i hstr ⟨by omega, by omega⟩ (by omega)).x fun r a2 n2 hn2 k1 k2 k3 => ?_
      obtain ⟨b, rfl⟩ := k3
      simp (disch := omega) only [↓wpre, push_cast, seval, hh, hstr]
      (first | with_reducible refine cnd_ndec (fun hc => ?_) (fun hc => ?_) | with_reducible refine cnd_dec (fun hc => ?_) (fun hc => ?_) | with_reducible refine cnd_nb (fun hc => ?_) (fun hc => ?_) | with_reducible refine cnd_intro (fun hc => ?_) (fun hc => ?_)) <;> (first | (exfalso; omega) | (try simp (disch := omega) only [↓wpre, push_cast, seval, hc, hh]))
      · refine (range_c G _ nz l a2 1 7 i (by simp (disch := omega) only [↓wpre, push_cast, seval, hstr]) ⟨by omega, by omega⟩ (by omega)).x fun r a3 n3 hn3 m1 m2 m3 => ?_
        obtain ⟨how, rfl, hhow⟩ := m3
        simp (disch := omega) only [↓wpre, push_cast, seval, hh, hstr, hu_hu]
        (first | with_reducible refine cnd_ndec (fun hc => ?_) (fun hc => ?_) | with_reducible refine cnd_dec (fun hc => ?_) (fun hc => ?_) | with_reducible refine cnd_nb (fun hc => ?_) (fun hc => ?_) | with_reducible refine cnd_intro (fun hc => ?_) (fun hc => ?_)) <;> (first | (exfalso; omega) | (try simp (disch := omega) only [↓wpre, push_cast, seval, hc, hh]))
        · refine (next_c G _ nz l a3 4 i (by simp (disch := omega) only [↓wpre, push_cast, seval, hstr]) ⟨by omega, by omega⟩ (by omega)).x fun r a4 n4 hn4 m1' m2' m3 => ?_
          obtain ⟨w, rfl, hw⟩ := m3
          obtain ⟨nzr, srcs, hsr1, hsr2, hsi⟩ := pickS (rows := sRows) (ks := [(false, []), (true, [⟨#[115, 104, 111, 112]⟩]), (true, [⟨#[100, 101, 115, 107]⟩, ⟨#[115, 104, 111, 112]⟩]), (true, [⟨#[97, 112, 112]⟩, ⟨#[110, 111, 119, 104, 101, 114, 101]⟩, ⟨#[100, 101, 115, 107]⟩])]) rfl (by decide) w hw.1 hw.2
          have hevS : Even 1 sRows = True := eq_true (by intro r hr; simp [sRows] at hr; rcases hr with rfl | rfl | rfl | rfl <;> exact ⟨rfl, rfl⟩)
          unfold sRows at hsi hevS
          simp (disch := omega) only [↓wpre, push_cast, seval, hh, hstr, hrow, hu_hu, hevS, hsi]
          refine xapp_outN (n0 := n + 1) (rows := q.srv.map Srv.c) (keepO hj.s (fun o h => by obtain ⟨s1, s2, s3, s4, s5⟩ := hj.sna o h; repeat rw [hu_ne (by omega)]) (by omega)) (by simp) (by intro r hr; simp at hr; subst hr; exact ⟨rfl, rfl⟩) (by simp; omega) fun HN hN hNj => ?_
          have hNna : HN na = some ⟨44, 4, [[.ls q.nzk (q.kinds.map fun x => [AV.int x]), .int q.most, outAV wid q.weak.length, outAV sid q.srv.length]]⟩ := by rw [hNj na (by omega) (fun e => (hj.sna na e).2.2.1 rfl), ← hrow]; repeat rw [hu_ne (by omega)]
          simp (disch := omega) only [↓wpre, push_cast, seval, hh, hNna]
          refine againJ ({ q with srv := q.srv ++ [⟨x, 5, nzr, srcs⟩] }, wid, some (n4), a4, j + 1) (by dsimp only; omega) ⟨hj.more (by omega) ⟨x, 5, nzr, srcs⟩ ⟨by dsimp only; first | omega | simp, by dsimp only; omega, hsr2⟩ (by omega) ?_ (by first | exact hu_same | (rw [hu_same]; simp)) ?_ (by dsimp only; omega) ?_, by dsimp only; omega, by simp; omega, by dsimp only; omega, hwl⟩ (by simp (disch := omega) only [↓wpre, push_cast, seval, hh]; all_goals (try simp only [AV.lit.injEq, Value.int.injEq, Value.bool.injEq, true_and, and_true]); all_goals (try (repeat' apply And.intro)); all_goals (first | rfl | omega | simp_all | skip))
          · rw [hu_ne (by omega), hN, List.map_append]; rfl
          · rw [hu_ne (by omega), hNj i (by omega) (fun e => (hj.sna i e).2.2.2.1 rfl)]
            repeat rw [hu_ne (by omega)]
            rw [hu_same]
          · intro o o1 o2 o3 o4
            rw [hu_ne o2, hNj o (by omega) o4]
            repeat rw [hu_ne (by omega)]
        · simp (disch := omega) only [↓wpre, push_cast, seval, hh, hstr, hrow, hu_hu]
          refine xapp_outN (n0 := n + 1) (rows := q.srv.map Srv.c) (keepO hj.s (fun o h => by obtain ⟨s1, s2, s3, s4, s5⟩ := hj.sna o h; repeat rw [hu_ne (by omega)]) (by omega)) (by simp) (by intro r hr; simp at hr; subst hr; exact ⟨rfl, rfl⟩) (by simp; omega) fun HN hN hNj => ?_
          have hNna : HN na = some ⟨44, 4, [[.ls q.nzk (q.kinds.map fun x => [AV.int x]), .int q.most, outAV wid q.weak.length, outAV sid q.srv.length]]⟩ := by rw [hNj na (by omega) (fun e => (hj.sna na e).2.2.1 rfl), ← hrow]; repeat rw [hu_ne (by omega)]
          simp (disch := omega) only [↓wpre, push_cast, seval, hh, hNna]
          refine againJ ({ q with srv := q.srv ++ [⟨x, how, false, []⟩] }, wid, some (n3 + 1), a3, j + 1) (by dsimp only; omega) ⟨hj.more (by omega) ⟨x, how, false, []⟩ ⟨by dsimp only; first | omega | simp, by dsimp only; omega, by simp⟩ (by omega) ?_ (by first | exact hu_same | (rw [hu_same]; simp)) ?_ (by dsimp only; omega) ?_, by dsimp only; omega, by simp; omega, by dsimp only; omega, hwl⟩ (by simp (disch := omega) only [↓wpre, push_cast, seval, hh]; all_goals (try simp only [AV.lit.injEq, Value.int.injEq, Value.bool.injEq, true_and, and_true]); all_goals (try (repeat' apply And.intro)); all_goals (first | rfl | omega | simp_all | skip))
          · rw [hu_ne (by omega), hN, List.map_append]; rfl
          · rw [hu_ne (by omega), hNj i (by omega) (fun e => (hj.sna i e).2.2.2.1 rfl)]
            repeat rw [hu_ne (by omega)]
            rw [hu_same]
          · intro o o1 o2 o3 o4
            rw [hu_ne o2, hNj o (by omega) o4]
            repeat rw [hu_ne (by omega)]
      · refine againJ (q, wid, sid, a2, j + 1) (by dsimp only; omega) ⟨hj.go hu_same k1 hn2 (fun o h1 h2 => hu_ne h2), by dsimp only; omega, by dsimp only; omega, by dsimp only; omega, hwl⟩ (by simp (disch := omega) only [↓wpre, push_cast, seval, hh]; all_goals (try simp only [AV.lit.injEq, Value.int.injEq, Value.bool.injEq, true_and, and_true]); all_goals (try (repeat' apply And.intro)); all_goals (first | rfl | omega | simp_all | skip))
    · simp (disch := omega) only [↓wpre, push_cast, seval, hh, hlt]
      have hres := hj.res
      have hni : n ≠ i := by omega
      have hnna : na ≠ n := by omega
      refine (flip_c G _ nz l a9 20 i hstr ⟨by omega, by omega⟩ (by omega)).x fun r a2 n2 hn2 k1 k2 k3 => ?_
      obtain ⟨b, rfl⟩ := k3
      have hj2 : Jr H nz l a i n na (hu H1 i (some (strm (LL nz l) a2))) n2 q wid sid a2 := hj.go hu_same k1 hn2 (fun o h1 h2 => hu_ne h2)
      simp (disch := omega) only [↓wpre, push_cast, seval, hh, hstr]
      (first | with_reducible refine cnd_ndec (fun hc => ?_) (fun hc => ?_) | with_reducible refine cnd_dec (fun hc => ?_) (fun hc => ?_) | with_reducible refine cnd_nb (fun hc => ?_) (fun hc => ?_) | with_reducible refine cnd_intro (fun hc => ?_) (fun hc => ?_)) <;> (first | (exfalso; omega) | (try simp (disch := omega) only [↓wpre, push_cast, seval, hc, hh]))
      · refine (next_c G _ nz l a2 6 i hu_same ⟨by omega, by omega⟩ (by omega)).x fun r a3 n3 hn3 k1' k2' k3 => ?_
        obtain ⟨w, rfl, hw⟩ := k3
        have hj3 : Jr H nz l a i n na (hu (hu H1 i (some (strm (LL nz l) a2))) i (some (strm (LL nz l) a3))) n3 q wid sid a3 := hj2.go hu_same k1' hn3 (fun o h1 h2 => hu_ne h2)
        simp (disch := omega) only [↓wpre, push_cast, seval, hh]
        clear hj hj2
        generalize hu (hu H1 i (some (strm (LL nz l) a2))) i (some (strm (LL nz l) a3)) = HC at hj3 ⊢
        have hrow := hj3.row
        have hstr := hj3.str
        have hres := hj3.res
        have hna := hj3.na
        have hsm := hj3.sm
        by_cases e0 : w = 0
        · simp (disch := omega) only [↓wpre, push_cast, seval, e0, hh]
          refine (next_c G _ nz l a3 5 i (by simp (disch := omega) only [↓wpre, push_cast, seval, hstr]) ⟨by omega, by omega⟩ (by omega)).x fun r a4 n4 hn4 m1 m2 m3 => ?_
          obtain ⟨w2, rfl, hw2⟩ := m3
          obtain ⟨nzk, kinds, hkl, hki⟩ := pick5 (rows := tRows) (ks := [(false, []), (true, [2, 1]), (true, [0]), (true, [5]), (true, [1, 1])]) rfl (by decide) w2 hw2.1 hw2.2
          have hev : Even 1 tRows = True := eq_true (by intro r hr; simp [tRows] at hr; rcases hr with rfl | rfl | rfl | rfl | rfl <;> exact ⟨rfl, rfl⟩)
          unfold tRows at hki hev
          have hj4 : Jr H nz l a i n na (hu HC i (some (strm (LL nz l) a4))) n4 q wid sid a4 := hj3.go hu_same m1 hn4 (fun o h1 h2 => hu_ne h2)
          simp (disch := omega) only [↓wpre, push_cast, seval, hh, hstr, hrow, hres, hev, hki]
          have hj5 := hj4.put (q2 := { q with nzk := nzk, kinds := kinds }) rfl rfl ⟨hsm.weak, ⟨hkl, hsm.few.2⟩, hsm.srv⟩ hu_same (fun o h1 h2 => hu_ne h2)
          exact fin_intro (Ab.Sub.refl _) (hj5.fin (by omega) (by first | (left; omega) | (left; dsimp only; omega) | (left; simp; omega) | (right; omega)) _ (by first | rfl | simp [outAV]))
        by_cases e1 : w = 1
        · simp (disch := omega) only [↓wpre, push_cast, seval, e0, e1, hh]
          refine (odd_c G _ nz l a3 2 2000 i (by simp (disch := omega) only [↓wpre, push_cast, seval, hstr]) ⟨by omega, by omega⟩ (by omega)).x fun r a4 n4 hn4 m1 m2 m3 => ?_
          obtain ⟨z, rfl, hz⟩ := m3
          have hj4 : Jr H nz l a i n na (hu HC i (some (strm (LL nz l) a4))) n4 q wid sid a4 := hj3.go hu_same m1 hn4 (fun o h1 h2 => hu_ne h2)
          simp (disch := omega) only [↓wpre, push_cast, seval, hh, hstr, hrow, hres]
          have hj5 := hj4.put (q2 := { q with most := z }) rfl rfl ⟨hsm.weak, hsm.few, hsm.srv⟩ hu_same (fun o h1 h2 => hu_ne h2)
          exact fin_intro (Ab.Sub.refl _) (hj5.fin (by omega) (by first | (left; omega) | (left; dsimp only; omega) | (left; simp; omega) | (right; omega)) _ (by first | rfl | simp [outAV]))
        by_cases e2 : w = 2
        · simp (disch := omega) only [↓wpre, push_cast, seval, e0, e1, e2, hh, hrow]
          refine ACalls.x (ACalls.lowp (cloneI_c G _ wid q.weak (fun o h => ⟨by have := hj3.w; rw [h] at this; exact this.1, hj3.wne (by rw [h]; simp)⟩) (fun h => by have := hj3.w; rw [h] at this; simpa [OutIs] using this) (by omega) _)) fun r H5 n5 ⟨⟨oid, e9, hoo, hone, hsub⟩, hn5, _⟩ => ?_
          subst e9
          simp (disch := omega) only [↓wpre, push_cast, seval, hh]
          refine (spoiledId_c G _ hG hP nz l a3 i (hsub _ _ hstr) ⟨by omega, by omega⟩).x fun r a4 n6 hn6 m1 m2 m3 => ?_
          obtain ⟨x, hx, rfl⟩ := m3
          simp (disch := omega) only [↓wpre, push_cast, seval, hh]
          have hoi : ∀ o, oid = some o → n3 ≤ o ∧ o < n5 := fun o h => by rw [h] at hoo; exact ⟨hoo.2.1, hoo.2.2⟩
          refine xapp_outN (n0 := n3) (rows := q.weak.map Idn.c) (keepO hoo (fun o h => by have := hoi o h; exact hu_ne (by omega)) (by omega)) (by simp) (by intro r hr; simp at hr; subst hr; exact ⟨rfl, rfl⟩) (by simp; omega) fun HN hN hNj => ?_
          have hNs : ∀ j y, j < n3 → j ≠ i → HC j = some y → HN j = some y := fun j y hlt2 hji hy => by
            rw [hNj j (by omega) (fun e => by have := (hoi j e).1; omega), hu_ne hji]
            exact hsub _ _ hy
          have hNna := hNs na _ (by omega) (by omega) hrow
          have hNn := hNs n _ (by omega) (by omega) hres
          simp (disch := omega) only [↓wpre, push_cast, seval, hh, hNna, hNn]
          have hj5 := hj3.weak (nn := n6) (HF := hu HN na (some ⟨44, 4, [[.ls q.nzk (q.kinds.map fun x => [AV.int x]), .int q.most, .os n6 0 (q.weak.length + 1), outAV sid q.srv.length]]⟩)) (by omega) x (by have := hx.2.2; omega) (by omega) (by rw [hu_ne (by omega), hN, List.map_append]; rfl) hu_same (a10 := a4) (by rw [hu_ne (by omega), hNj i (by omega) (fun e => by have := (hoi i e).1; omega), hu_same]) m1 (fun j y o1 o2 o3 o4 hy => by rw [hu_ne o2]; exact hNs j y o1 o3 hy)
          exact fin_intro (Ab.Sub.refl _) (hj5.fin (by omega) (by first | (left; omega) | (left; dsimp only; omega) | (left; simp; omega) | (right; omega)) _ (by first | rfl | simp [outAV]))
        by_cases e3 : w = 3
        · simp (disch := omega) only [↓wpre, push_cast, seval, e0, e1, e2, e3, hh]
          refine xw_freg noH (of_eq_true (sub_noH _)) ?_
          simp (disch := omega) only [↓wpre, push_cast, seval, hh, hrow, List.map_cons, List.map_nil]
          refine xsp_intro ?_ ?_
          all_goals
            refine (one_c G _ nz true l a3 i (by first | exact hstr | simp (disch := omega) only [↓wpre, push_cast, seval, hstr]) ⟨by omega, by omega⟩ [⟨#[]⟩, ⟨#[97, 103, 101]⟩, ⟨#[122, 111, 111]⟩] (by simp) (by simp)).x fun r a4 n4 hn4 m1 m2 m3 => ?_
            obtain ⟨nm, rfl, hnm⟩ := m3
            have hnms : nm.size ≤ 100 := by
              simp only [List.mem_cons, List.not_mem_nil, or_false] at hnm
              rcases hnm with rfl | rfl | rfl <;> decide
            simp (disch := omega) only [↓wpre, push_cast, seval, hh, hrow, List.map_cons, List.map_nil]
            try refine xsp_intro ?_ ?_
          all_goals
            refine (odd_c G _ nz l a4 1 7 i (by first | exact hu_same | simp (disch := omega) only [↓wpre, push_cast, seval, hstr]) ⟨by omega, by omega⟩ (by omega)).x fun r a5 n5 hn5 m1' m2' m3 => ?_
            obtain ⟨how, rfl, hhow⟩ := m3
            simp (disch := omega) only [↓wpre, push_cast, seval, hh, hrow, List.map_cons, List.map_nil]
            refine xapp_outN (n0 := n + 1) (rows := q.srv.map Srv.c) (keepO hj3.s (fun o h => by obtain ⟨s1, s2, s3, s4, s5⟩ := hj3.sna o h; repeat rw [hu_ne (by omega)]) (by omega)) (by simp) (by intro r hr; simp at hr; subst hr; exact ⟨rfl, rfl⟩) (by simp; omega) fun HN hN hNj => ?_
            have hNna : HN na = some ⟨44, 4, [[.ls q.nzk (q.kinds.map fun x => [AV.int x]), .int q.most, outAV wid q.weak.length, outAV sid q.srv.length]]⟩ := by rw [hNj na (by omega) (fun e => (hj3.sna na e).2.2.1 rfl), ← hrow]; repeat rw [hu_ne (by omega)]
            have hNn : HN n = some ⟨44, 4, [[.ls false [], .int 0, .ls false [], .ls false []]]⟩ := by rw [hNj n (by omega) (fun e => by have := (hj3.sna n e).1; omega), ← hres]; repeat rw [hu_ne (by omega)]
            simp (disch := omega) only [↓wpre, push_cast, seval, hh, hNna, hNn, List.map_cons, List.map_nil]
            have hj5 := hj3.more (nn := n5) (HF := hu HN na (some ⟨44, 4, [[.ls q.nzk (q.kinds.map fun x => [AV.int x]), .int q.most, outAV wid q.weak.length, .os n5 0 (q.srv.length + 1)]]⟩)) (by omega) ⟨nm, how, false, []⟩ ⟨by simp, by dsimp only; omega, by simp⟩ (by omega) (by rw [hu_ne (by omega), hN, List.map_append]; rfl) hu_same (a10 := a5) (by rw [hu_ne (by omega), hNj i (by omega) (fun e => (hj3.sna i e).2.2.2.1 rfl)]; exact hu_same) (by omega) (fun o o1 o2 o3 o4 => by rw [hu_ne o2, hNj o (by omega) o4]; repeat rw [hu_ne (by omega)])
            exact fin_intro (Ab.Sub.refl _) (hj5.fin (by omega) (by first | (left; omega) | (left; dsimp only; omega) | (left; simp; omega) | (right; omega)) _ (by first | rfl | simp [outAV]))
        by_cases e4 : w = 4
        · simp (disch := omega) only [↓wpre, push_cast, seval, e0, e1, e2, e3, e4, hh]
          refine xw_freg noH (of_eq_true (sub_noH _)) ?_
          simp (disch := omega) only [↓wpre, push_cast, seval, hh, hrow, List.map_cons, List.map_nil]
          refine xsp_intro ?_ ?_
          all_goals
            refine (range_c G _ nz l a3 1 7 i (by first | exact hstr | simp (disch := omega) only [↓wpre, push_cast, seval, hstr]) ⟨by omega, by omega⟩ (by omega)).x fun r a4 n4 hn4 m1 m2 m3 => ?_
            obtain ⟨how, rfl, hhow⟩ := m3
            simp (disch := omega) only [↓wpre, push_cast, seval, hh, hrow, List.map_cons, List.map_nil]
            try refine xsp_intro ?_ ?_
          all_goals
            refine (one_c G _ nz true l a4 i (by first | exact hu_same | simp (disch := omega) only [↓wpre, push_cast, seval, hstr]) ⟨by omega, by omega⟩ [⟨#[97]⟩, ⟨#[66]⟩] (by simp) (by simp)).x fun r a5 n5 hn5 m1' m2' m3 => ?_
            obtain ⟨x1, rfl, hx1⟩ := m3
            simp (disch := omega) only [↓wpre, push_cast, seval, hh, hrow, List.map_cons, List.map_nil]
            try refine xsp_intro ?_ ?_
          all_goals
            refine (one_c G _ nz true l a5 i (by first | exact hu_same | simp (disch := omega) only [↓wpre, push_cast, seval, hstr]) ⟨by omega, by omega⟩ [⟨#[97]⟩, ⟨#[98]⟩] (by simp) (by simp)).x fun r a6 n6 hn6 m1'' m2'' m3 => ?_
            obtain ⟨x2, rfl, hx2⟩ := m3
            have hx1s : x1.size ≤ 100 := by
              simp only [List.mem_cons, List.not_mem_nil, or_false] at hx1
              rcases hx1 with rfl | rfl <;> decide
            have hx2s : x2.size ≤ 100 := by
              simp only [List.mem_cons, List.not_mem_nil, or_false] at hx2
              rcases hx2 with rfl | rfl <;> decide
            simp (disch := omega) only [↓wpre, push_cast, seval, hh, hrow, List.map_cons, List.map_nil]
            refine xapp_outN (n0 := n + 1) (rows := q.srv.map Srv.c) (keepO hj3.s (fun o h => by obtain ⟨s1, s2, s3, s4, s5⟩ := hj3.sna o h; repeat rw [hu_ne (by omega)]) (by omega)) (by simp) (by intro r hr; simp at hr; subst hr; exact ⟨rfl, rfl⟩) (by simp; omega) fun HN hN hNj => ?_
            have hNna : HN na = some ⟨44, 4, [[.ls q.nzk (q.kinds.map fun x => [AV.int x]), .int q.most, outAV wid q.weak.length, outAV sid q.srv.length]]⟩ := by rw [hNj na (by omega) (fun e => (hj3.sna na e).2.2.1 rfl), ← hrow]; repeat rw [hu_ne (by omega)]
            have hNn : HN n = some ⟨44, 4, [[.ls false [], .int 0, .ls false [], .ls false []]]⟩ := by rw [hNj n (by omega) (fun e => by have := (hj3.sna n e).1; omega), ← hres]; repeat rw [hu_ne (by omega)]
            simp (disch := omega) only [↓wpre, push_cast, seval, hh, hNna, hNn, List.map_cons, List.map_nil]
            have hj5 := hj3.more (nn := n6) (HF := hu HN na (some ⟨44, 4, [[.ls q.nzk (q.kinds.map fun x => [AV.int x]), .int q.most, outAV wid q.weak.length, .os n6 0 (q.srv.length + 1)]]⟩)) (by omega) ⟨⟨#[122, 111, 111]⟩, how, true, [x1, x2]⟩ ⟨by simp, (show (⟨#[122, 111, 111]⟩ : T).size ≤ 1000 by decide), by intro y hy; simp at hy; rcases hy with rfl | rfl <;> omega⟩ (by omega) (by rw [hu_ne (by omega), hN, List.map_append]; rfl) hu_same (a10 := a6) (by rw [hu_ne (by omega), hNj i (by omega) (fun e => (hj3.sna i e).2.2.2.1 rfl)]; exact hu_same) (by omega) (fun o o1 o2 o3 o4 => by rw [hu_ne o2, hNj o (by omega) o4]; repeat rw [hu_ne (by omega)])
            exact fin_intro (Ab.Sub.refl _) (hj5.fin (by omega) (by first | (left; omega) | (left; dsimp only; omega) | (left; simp; omega) | (right; omega)) _ (by first | rfl | simp [outAV]))
        · simp (disch := omega) only [↓wpre, push_cast, seval, e0, e1, e2, e3, e4, hh]
          obtain ⟨y0, hy0, rest0, hd0⟩ := pool_at 0 (by omega) (by omega)
          have hys := pool_small y0 hy0
          have hd1 : poolC.drop 0 = .int y0.kind :: .str y0.text :: rest0 := hd0
          have ha3 : a3 ≤ a + 200 := by omega
          have hz0 : (0 : Int) < 10 := by omega
          refine xw_loopJ (σ := Rls × Option Nat × Nat) (fun t => [(2, .op n 0 0), (3, .op na 0 0), (59, .int t.2.2)]) (fun t H' n' => Jr H nz l a i n na H' n' t.1 t.2.1 sid a3 ∧ t.1.weak.length ≤ 3 + t.2.2 ∧ t.2.2 ≤ t.1.weak.length ∧ t.2.2 ≤ 201) (fun t => 201 - t.2.2) (q, wid, 0) ⟨hj3, by dsimp only; omega, Nat.zero_le _, Nat.zero_le _⟩ (by simp (disch := omega) only [↓wpre, push_cast, seval, hh]; try rfl) ?_
          clear hj3 hrow hstr hres hna hsm hh hwl hsl ha9
          rintro ⟨q, wid, k⟩ fr HC n4 ⟨hj3, hwl, hwl2, hk⟩ hh
          simp only [has_nil, has_cons, and_true] at hh hj3 hwl hwl2 hk
          have hrow := hj3.row
          have hres := hj3.res
          have hna := hj3.na
          by_cases hlt2 : (k : Int) < 201
          · simp (disch := omega) only [↓wpre, push_cast, seval, hh, hlt2, hrow, hP, hd1, hz0, Int.toNat_zero, Nat.zero_mul]
            refine xapp_outN (n0 := n + 1) (rows := q.weak.map Idn.c) (keepO hj3.w (fun o h => rfl) (by omega)) (by simp) (by intro r hr; simp at hr; subst hr; exact ⟨rfl, rfl⟩) (by simp; omega) fun HN hN hNj => ?_
            have hNna : HN na = some ⟨44, 4, [[.ls q.nzk (q.kinds.map fun x => [AV.int x]), .int q.most, outAV wid q.weak.length, outAV sid q.srv.length]]⟩ := by rw [hNj na (by omega) (fun e => (hj3.wna na e).2.2.1 rfl), ← hrow]
            simp (disch := omega) only [↓wpre, push_cast, seval, hh, hNna]
            refine againJ ({ q with weak := q.weak ++ [y0] }, some n4, k + 1) (by dsimp only; omega) ⟨hj3.weak (by omega) y0 (by have := hys.2.2; omega) (by omega) (by rw [hu_ne (by omega), hN, List.map_append]; rfl) (by first | exact hu_same | (rw [hu_same]; simp)) (by rw [hu_ne (by omega), hNj i (by omega) (fun e => (hj3.wna i e).2.2.2.1 rfl)]; exact hj3.str) (Int.le_refl _) (fun o y o1 o2 o3 o4 hy => by rw [hu_ne o2, hNj o (by omega) o4]; exact hy), by simp; omega, by simp; omega, by dsimp only; omega⟩ (by simp (disch := omega) only [↓wpre, push_cast, seval, hh]; all_goals (try simp only [AV.lit.injEq, Value.int.injEq, Value.bool.injEq, true_and, and_true]); all_goals (try (repeat' apply And.intro)); all_goals (first | rfl | omega | simp_all | skip))
          · simp (disch := omega) only [↓wpre, push_cast, seval, hh, hlt2, hrow, hres]
            exact fin_intro (Ab.Sub.refl _) (hj3.fin (by omega) (by first | (left; omega) | (left; dsimp only; omega) | (left; simp; omega) | (right; omega)) _ (by first | rfl | simp [outAV]))
      · simp (disch := omega) only [↓wpre, push_cast, seval, hh, hrow, hres]
        exact fin_intro (Ab.Sub.refl _) (hj2.fin (by omega) (by first | (left; omega) | (left; dsimp only; omega) | (left; simp; omega) | (right; omega)) _ (by first | rfl | simp [outAV]))
end Go.Proofs.YtblhbafoncfhdaaGreatDoor
namespace Go.Proofs.YtblhbafoncfhdaaGreatDoor
open Go Go.Ab Go.Pm Go.Cm Go.El Go.Rm Go.Pp Go.Uf
variable (G : Nat → AV) (H : Nat → Option AObj)
theorem srvs_frz {D : Nat → Option AObj} {k : Nat} (l : List Srv) : (l.map Srv.c).map (List.map (frz D (k + 1))) = l.map Srv.c := by
 rw [List.map_map]
 refine List.map_congr_left fun t _ => ?_
 show [frz D (k + 1) (.str t.name), frz D (k + 1) (.int t.how), frz D (k + 1) (.ls t.nz _)] = _
 rw [frz_lit, frz_lit, frz_ls_p (fun r hr => by obtain ⟨x, _, rfl⟩ := List.mem_map.1 hr; rfl)]
theorem joinRules_c (hU : GU G) (hP : G 1 = .pp poolC) (nz : Bool) (l : List Int) (a : Int) (i : Nat) (hi : H i = some (strm (LL nz l) a)) (ha : 0 ≤ a ∧ a ≤ 1099511620000) : SC G H 78 [.op i 0 0] i (LL nz l) a 300 fun r => ∃ q : Rls, r = .agg q.c ∧ RlsSm q ∧ (q.weak.length ≤ 10 ∨ 200 < q.weak.length) ∧ (q.nzw = false → q.weak = []) := by
 intro n
 refine low_of G H fun hlow => ACalls.frz (joinRules_run G H hU hP nz l a i hi ha n) ?_
 have hin := hlow i _ hi
 rintro r H1 n1 ⟨a', q, wid, sid, h1, h2, hsm, hwk, rfl, hw, hs, hwne, hsne, hsub⟩
 have hD : ∀ j, n ≤ j → (fun j => if n ≤ j then H1 j else none) j = H1 j := fun j hj => if_pos hj
 refine ⟨fun j => if n ≤ j then H1 j else none, hu H i (some (strm (LL nz l) a')), 3, fun j o hj => ?_, hsub, fun j o hj => ?_, a', h1, h2, rfl, ⟨q.nzk, q.kinds, q.most, wid.isSome, q.weak, sid.isSome, q.srv⟩, ?_, ⟨hsm.weak, hsm.few, hsm.srv⟩, hwk, fun h => by
  cases wid with
  | none =>
   have h0 : q.weak.map Idn.c = [] := hw
   simpa using h0
  | some o => cases h⟩
 ·dsimp only at hj
  split at hj
  ·exact hj
  ·cases hj
 ·dsimp only at hj
  split at hj
  ·rename_i hn
   rw [hu_ne (by omega)]
   cases hH : H j with
   | none => rfl
   | some x => exact absurd (hlow j x hH) (by omega)
  ·cases hj
 ·have e1 : frz (fun j => if n ≤ j then H1 j else none) 2 (.ls q.nzk (q.kinds.map fun x => [AV.int x])) = .ls q.nzk (q.kinds.map fun x => [AV.int x]) := frz_ls_p (plain_ints _)
  have e2 : frz (fun j => if n ≤ j then H1 j else none) 2 (outAV wid q.weak.length) = .ls wid.isSome (q.weak.map Idn.c) := by
   cases wid with
   | none =>
    have h : q.weak.map Idn.c = [] := hw
    rw [h]; rfl
   | some o =>
    have ho := hw.1
    rw [← hD o hw.2.1] at ho
    simp only [outAV, frz, ho]
    rw [if_pos (by simp), List.drop_zero, List.take_of_length_le (by simp), rows_plain (plain_idn _)]
    rfl
  have e3 : frz (fun j => if n ≤ j then H1 j else none) 2 (outAV sid q.srv.length) = .ls sid.isSome (q.srv.map Srv.c) := by
   cases sid with
   | none =>
    have h : q.srv.map Srv.c = [] := hs
    rw [h]; rfl
   | some o =>
    have ho := hs.1
    rw [← hD o hs.2.1] at ho
    simp only [outAV, frz, ho]
    rw [if_pos (by simp), List.drop_zero, List.take_of_length_le (by simp)]
    congr 1
    exact srvs_frz (k := 0) q.srv
  show AV.agg [frz _ 2 _, frz _ 2 (.int q.most), frz _ 2 _, frz _ 2 _] = _
  rw [e1, e2, e3, frz_lit]
theorem default_ok : RulesOk ⟨true, [1, 2], 3, false, [], false, []⟩ where
 some := by simp
 kin := by intro k hk; simp at hk; omega
 kasc := by simp
 most := by simp
 wfew := by simp
 weak := ⟨(by intro x hx; cases hx), List.Pairwise.nil, (by intro x hx; cases hx)⟩
 sfew := by simp
 srv := by intro x hx; cases hx
 sasc := List.Pairwise.nil
set_option maxHeartbeats 3200000 in
theorem rightRulesW_c (hU : GU G) (hP : G 1 = .pp poolC) (nz : Bool) (l : List Int) (a : Int) (i : Nat) (hi : H i = some (strm (LL nz l) a)) (ha : 0 ≤ a ∧ a ≤ 1099511610000) : SC G H 19 [.op i 0 0] i (LL nz l) a 2000 fun r => ∃ q : Rls, r = .agg q.c ∧ RulesOk q ∧ q.weak.length ≤ 10 ∧ (q.nzw = false → q.weak = []) := by
 intro n
 refine ACalls.start mix F19 (by simp) fun hlow => ?_
 have hq := Qs.refl hi hlow
 have hin := hq.2.2
 simp (disch := omega) only [↓wpre, push_cast, seval, c19]
 refine xw_loopJ (σ := Int × Nat) (fun t => [(0, .op i 0 0), (2, .op n 0 0), (4, .int t.2)]) (fun t H' n' => t.2 ≤ 5 ∧ H' n = some ⟨44, 4, [[.ls false [], .int 0, .ls false [], .ls false []]]⟩ ∧ Qs H H' i n ∧ H' i = some (strm (LL nz l) t.1) ∧ n + 1 ≤ n' ∧ a ≤ t.1 ∧ t.1 ≤ a + 300 * (t.2 : Int)) (fun t => 5 - t.2) (a, 0) ⟨by omega, hu_same, by (repeat (first | exact hq | refine Qs.put ?_ | refine Qs.new ?_ (by omega))), by simp (disch := omega) only [↓wpre, push_cast, seval, hi], by omega, Int.le_refl _, by simp⟩ (by simp (disch := omega) only [↓wpre, push_cast, seval]; try rfl) ?_
 clear hq
 rintro ⟨a1, k⟩ fr H1 n1 ⟨hk, hres, hq, hs, hn1, ha1, ha2⟩ hh
 simp only [has_nil, has_cons, and_true] at hh hk hres hs ha1 ha2
 by_cases hlt : (k : Int) < 5
 ·simp (disch := omega) only [↓wpre, push_cast, seval, hh, hlt]
  refine (joinRules_c G _ hU hP nz l a1 i hs ⟨by omega, by omega⟩).x fun r a2 n2 hn2 k1 k2 k3 => ?_
  obtain ⟨q, rfl, hsm, hwk, hwz⟩ := k3
  simp (disch := omega) only [↓wpre, push_cast, seval, hh, hs]
  refine ACalls.x (ACalls.lowp (rulesFault_c G _ hU q hsm _)) fun r1 H4 n4 ⟨⟨e, e1, he0, e2⟩, hn4, _⟩ => ?_
  subst e1 e2
  by_cases h5 : e = 0
  ·have hok := he0 h5
   simp (disch := omega) only [↓wpre, push_cast, seval, hh, hs, hres, h5]
   have hw10 : q.weak.length ≤ 10 := by
    have := hok.wfew
    omega
   refine fin_intro (H' := hu H i (some (strm (LL nz l) (a2)))) (Qs.sub (n := n) (by (repeat (first | exact hq | refine Qs.put ?_ | refine Qs.new ?_ (by omega)))) (by simp (disch := omega) only [↓wpre, push_cast, seval, hq.2.2])) ⟨a2, by omega, by omega, rfl, ⟨q, rfl, hok, hw10, hwz⟩⟩
  ·simp (disch := omega) only [↓wpre, push_cast, seval, hh, hs, hres, h5]
   refine againJ (a2, k + 1) (by dsimp only; omega) ⟨by dsimp only; omega, by simp (disch := omega) only [↓wpre, push_cast, seval, hres], by (repeat (first | exact hq | refine Qs.put ?_ | refine Qs.new ?_ (by omega))), by simp (disch := omega) only [↓wpre, push_cast, seval, hs], by omega, by dsimp only; omega, by dsimp only; omega⟩ (by simp (disch := omega) only [↓wpre, push_cast, seval, hh]; all_goals (try simp only [AV.lit.injEq, Value.int.injEq, Value.bool.injEq, true_and, and_true]); all_goals (try (repeat' apply And.intro)); all_goals (first | rfl | omega | simp_all | skip))
 ·simp (disch := omega) only [↓wpre, push_cast, seval, hh, hlt, hres]
  refine fin_intro (H' := hu H i (some (strm (LL nz l) a1))) (Qs.sub (n := n) (by (repeat (first | exact hq | refine Qs.put ?_ | refine Qs.new ?_ (by omega)))) (by simp (disch := omega) only [↓wpre, push_cast, seval, hs])) ⟨a1, by omega, by omega, rfl, ⟨true, [1, 2], 3, false, [], false, []⟩, rfl, default_ok, by simp, fun _ => rfl⟩
theorem rightRules_c (hU : GU G) (hP : G 1 = .pp poolC) (nz : Bool) (l : List Int) (a : Int) (i : Nat) (hi : H i = some (strm (LL nz l) a)) (ha : 0 ≤ a ∧ a ≤ 1099511610000) : SC G H 19 [.op i 0 0] i (LL nz l) a 2000 fun r => ∃ q : Rls, r = .agg q.c ∧ RulesOk q := fun n => (rightRulesW_c G H hU hP nz l a i hi ha n).mono fun r H' n' ⟨a', h1, h2, h3, q, h4, h5, h6⟩ => ⟨a', h1, h2, h3, q, h4, h5⟩
end Go.Proofs.YtblhbafoncfhdaaGreatDoor
