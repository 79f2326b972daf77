/-
  raw.Encode; sameness of commands; Place.
-/
import Derived.Test.YtcjahjhpbffcfaaBytes4
import Derived.Deep.QuietTactic
import Derived.BigQuiet
set_option linter.unusedVariables false
namespace Go.Proofs.Ytcjahjhpbffcfaa
open Go.RowKit

theorem place_any (v n : Int) (w : World) (h1 : 0 < n) (h2 : n ≤ 4611686018427387904) (h3 : -9223372036854775808 ≤ v) (h4 : v ≤ 9223372036854775807) :
    Calls Try.prog 11 #[.int .i64 v, .int .i64 n] w fun e w' => e = .returned (.int .i64 (v % n)) ∧ w = w' := by
  have ht : v.tmod n = v % n ∨ (v.tmod n + n = v % n ∧ v.tmod n < 0) := by
    rw [Int.tmod_eq_emod]
    split
    · left; simp
    · right
      rename_i h
      have := Int.emod_lt_of_pos v h1
      have : v % n ≠ 0 := fun e => h (.inr (Int.dvd_of_emod_eq_zero e))
      omega
  have hb := Int.emod_lt_of_pos v h1
  have hb0 := Int.emod_nonneg v (Int.ne_of_gt h1)
  have hlo : -4611686018427387904 ≤ v.tmod n := by omega
  have hn0 : ¬ n = 0 := by omega
  obtain ⟨m, hm⟩ : ∃ m, v.tmod n = m := ⟨_, rfl⟩
  rw [hm] at ht hlo
  obtain ⟨r, hr⟩ : ∃ r, v % n = r := ⟨_, rfl⟩
  rw [hr] at ht hb hb0 ⊢
  clear hr
  go_enter Try.func11, Try.ntmps11
  go_wp2
  · go_ret
    exact ⟨ret_int (by omega), rfl⟩
  · go_ret
    exact ⟨ret_int (by omega), rfl⟩

/-- Two commands, field by field. -/
def sameC (a b : C) : Bool := a.k == b.k && a.a == b.a && a.b == b.b && a.c == b.c && a.s == b.s && a.t == b.t
theorem sameC_iff (a b : C) : sameC a b = true ↔ a = b := by
  obtain ⟨k, a, b0, c, s, t⟩ := a
  obtain ⟨k', a', b', c', s', t'⟩ := b
  simp [sameC, and_assoc]

theorem same_any (a b : C) (w : World) :
    Calls Try.prog 16 #[.agg a.cells.toArray, .agg b.cells.toArray] w fun e w' => e = .returned (.bool (decide (a = b))) ∧ Below w.heap.size w w' := by
  obtain ⟨k, a, b0, c, s, t⟩ := a
  obtain ⟨k', a', b', c', s', t'⟩ := b
  simp only [C.cells]
  go_enter Try.func16, Try.ntmps16
  go_wp2
  all_goals
    go_ret
    refine ⟨?_, ((Below.refl _ _).alloc (Nat.le_refl _) _).alloc (by simp) _⟩
    first
    | (rw [show (decide ((C.mk k a b0 c s t) = (C.mk k' a' b' c' s' t'))) = (t == t') by rw [Bool.eq_iff_iff]; simp [*]]; rfl)
    | (rw [show (decide ((C.mk k a b0 c s t) = (C.mk k' a' b' c' s' t'))) = false by simp [*]]; rfl)

/-- A slice of commands reads as a list. -/
def SlC (w : World) (v : Value) (l : List C) : Prop :=
  ∃ a cap, v = .slice a l.length cap ∧ (l = [] ∨ ∃ g off, a = some ⟨g, off, none⟩ ∧ ∀ (i : Nat) u, (cellsOf l)[i]? = some u → w.cell? ⟨g, off + i, none⟩ = some u)

theorem cellsOf_get (l : List C) (i j : Nat) (hi : i < l.length) (u : Value) (hu : (l[i]).cells[j]? = some u) : (cellsOf l)[i * 6 + j]? = some u := by
  induction l generalizing i with
  | nil => simp at hi
  | cons c r ih =>
    have hj : j < 6 := by
      have := (List.getElem?_eq_some_iff.1 hu).1
      simpa [C.cells] using this
    cases i with
    | zero =>
      simp only [cellsOf, List.flatMap_cons]
      rw [List.getElem?_append_left (by simp [C.cells]; omega)]
      simpa using hu
    | succ i =>
      have := ih i (by simpa using hi) (by simpa using hu)
      simp only [cellsOf, List.flatMap_cons] at this ⊢
      rw [List.getElem?_append_right (by simp [C.cells]; omega)]
      have e : (i + 1) * 6 + j - c.cells.length = i * 6 + j := by simp [C.cells]; omega
      rw [e]; exact this

theorem SlC.cell {w : World} {g off n cap : Nat} {l : List C} (h : SlC w (.slice (some ⟨g, off, none⟩) n cap) l) (i j : Nat) (hi : i < l.length) (u : Value) (hu : (l[i]).cells[j]? = some u) :
    w.cell? ⟨g, off + (i * 6 + j), none⟩ = some u := by
  obtain ⟨a, cap', hv, h⟩ := h
  simp at hv
  rcases h with h | ⟨g', off', ha, hc⟩
  · rw [h] at hi; simp at hi
  · rw [ha] at hv
    simp at hv
    obtain ⟨⟨rfl, rfl⟩, _⟩ := hv
    exact hc _ u (cellsOf_get l i j hi u hu)

theorem SlC.six {w : World} {g off n cap : Nat} {l : List C} (h : SlC w (.slice (some ⟨g, off, none⟩) n cap) l) (i : Nat) (hi : i < l.length) (c : C) (hc : l[i] = c) :
    w.cell? ⟨g, off + i * 6, none⟩ = some (.int .i64 c.k) ∧ w.cell? ⟨g, off + i * 6 + 1, none⟩ = some (.int .i64 c.a) ∧ w.cell? ⟨g, off + i * 6 + 2, none⟩ = some (.int .i64 c.b) ∧
    w.cell? ⟨g, off + i * 6 + 3, none⟩ = some (.int .i64 c.c) ∧ w.cell? ⟨g, off + i * 6 + 4, none⟩ = some (.string ⟨c.s.toArray⟩) ∧ w.cell? ⟨g, off + i * 6 + 5, none⟩ = some (.string ⟨c.t.toArray⟩) := by
  subst hc
  have h0 := h.cell i 0 hi _ rfl
  have h1 := h.cell i 1 hi _ rfl
  have h2 := h.cell i 2 hi _ rfl
  have h3 := h.cell i 3 hi _ rfl
  have h4 := h.cell i 4 hi _ rfl
  have h5 := h.cell i 5 hi _ rfl
  simp only [← Nat.add_assoc, Nat.add_zero] at h0 h1 h2 h3 h4 h5
  exact ⟨h0, h1, h2, h3, h4, h5⟩

theorem six2 {w : World} {g off n cap g' off' n' cap' : Nat} {l l' : List C} (h : SlC w (.slice (some ⟨g, off, none⟩) n cap) l) (h' : SlC w (.slice (some ⟨g', off', none⟩) n' cap') l')
    (i i' : Nat) (hi : i < l.length) (hi' : i' < l'.length) (c c' : C) (hc : l[i] = c) (hc' : l'[i'] = c') :
    w.cell? ⟨g, off + i * 6, none⟩ = some (.int .i64 c.k) ∧ w.cell? ⟨g, off + i * 6 + 1, none⟩ = some (.int .i64 c.a) ∧ w.cell? ⟨g, off + i * 6 + 2, none⟩ = some (.int .i64 c.b) ∧
    w.cell? ⟨g, off + i * 6 + 3, none⟩ = some (.int .i64 c.c) ∧ w.cell? ⟨g, off + i * 6 + 4, none⟩ = some (.string ⟨c.s.toArray⟩) ∧ w.cell? ⟨g, off + i * 6 + 5, none⟩ = some (.string ⟨c.t.toArray⟩) ∧
    w.cell? ⟨g', off' + i' * 6, none⟩ = some (.int .i64 c'.k) ∧ w.cell? ⟨g', off' + i' * 6 + 1, none⟩ = some (.int .i64 c'.a) ∧ w.cell? ⟨g', off' + i' * 6 + 2, none⟩ = some (.int .i64 c'.b) ∧
    w.cell? ⟨g', off' + i' * 6 + 3, none⟩ = some (.int .i64 c'.c) ∧ w.cell? ⟨g', off' + i' * 6 + 4, none⟩ = some (.string ⟨c'.s.toArray⟩) ∧ w.cell? ⟨g', off' + i' * 6 + 5, none⟩ = some (.string ⟨c'.t.toArray⟩) := by
  obtain ⟨h0, h1, h2, h3, h4, h5⟩ := h.six i hi c hc
  obtain ⟨k0, k1, k2, k3, k4, k5⟩ := h'.six i' hi' c' hc'
  exact ⟨h0, h1, h2, h3, h4, h5, k0, k1, k2, k3, k4, k5⟩

def SameI (n : Nat) (la lb : List C) (w0 : World) (v : Value) (wr : World) : Prop :=
  ∃ i : Nat, i ≤ n ∧ v = .int .i64 i ∧ la.take i = lb.take i ∧ Below w0.heap.size w0 wr

theorem SlC.on {w w' : World} {v : Value} {l : List C} (h : SlC w v l) (hb : Below w.heap.size w w') : SlC w' v l := by
  obtain ⟨a, cap, hv, h⟩ := h
  refine ⟨a, cap, hv, ?_⟩
  rcases h with h | ⟨g, off, ha, hc⟩
  · exact .inl h
  · refine .inr ⟨g, off, ha, fun i u hu => ?_⟩
    have := hc i u hu
    rw [hb.cell (p := ⟨g, off + i, none⟩) (World.block_lt_of_cell? w _ this)]
    exact this

theorem sameAll_any (va vb : Value) (la lb : List C) (w : World) (ha : SlC w va la) (hb : SlC w vb lb) (hm : la.length ≤ 1000000) (hm2 : lb.length ≤ 1000000) :
    Calls Try.prog 9 #[va, vb] w fun e w' => e = .returned (.bool (decide (la = lb))) ∧ Below w.heap.size w w' := by
  obtain ⟨aa, capa, rfl, ha'⟩ := id ha
  obtain ⟨ab, capb, rfl, hb'⟩ := id hb
  by_cases hl : la.length = lb.length
  · have hlb : ((la.length : Int) != (lb.length : Int)) = false := by simp; omega
    have HL := Lib.hid hl
    clear hl
    go_enter Try.func9, Try.ntmps9
    go_wp2_with fail
    go_loopw [5] (fun v wr => SameI la.length la lb w v wr) (fun v _ => la.length - (intOf v).toNat)
    case atStart => exact ⟨0, Nat.zero_le _, rfl, rfl, Below.refl _ _⟩
    case round =>
      obtain ⟨i, hi, rfl, heq, hbw⟩ := hrel
      by_cases hlt : i < la.length
      · rcases ha' with ha' | ⟨ga, oa, rfl, _⟩
        · rw [ha'] at hlt; simp at hlt
        rcases hb' with hb' | ⟨gb, ob, rfl, _⟩
        · have := HL.out; rw [hb'] at this; simp at this; rw [this] at hlt; simp at hlt
        have hltb : i < lb.length := by have := HL.out; omega
        have ha1 := ha.on hbw
        have hb1 := hb.on hbw
        obtain ⟨ca, hca⟩ : ∃ ca, la[i] = ca := ⟨_, rfl⟩
        obtain ⟨cb, hcb⟩ : ∃ cb, lb[i] = cb := ⟨_, rfl⟩
        obtain ⟨a0, a1, a2, a3, a4, a5⟩ := ha1.six i hlt ca hca
        obtain ⟨b0, b1, b2, b3, b4, b5⟩ := hb1.six i hltb cb hcb
        have HCA := Lib.hid hca
        have HCB := Lib.hid hcb
        clear hca hcb
        have hkeep : ∀ W', Below wr.drew.heap.size wr.drew W' → _ := fun W' hbs => six2 ((show SlC wr.drew _ la from ha1).on hbs) ((show SlC wr.drew _ lb from hb1).on hbs) i i hlt hltb ca cb HCA.out HCB.out
        go_wp2_with fail
        go_region_held3 (fun w' => w'.cell? ⟨ga, oa + i * 6, none⟩ = some (.int .i64 ca.k) ∧ w'.cell? ⟨ga, oa + i * 6 + 1, none⟩ = some (.int .i64 ca.a) ∧ w'.cell? ⟨ga, oa + i * 6 + 2, none⟩ = some (.int .i64 ca.b) ∧
            w'.cell? ⟨ga, oa + i * 6 + 3, none⟩ = some (.int .i64 ca.c) ∧ w'.cell? ⟨ga, oa + i * 6 + 4, none⟩ = some (.string ⟨ca.s.toArray⟩) ∧ w'.cell? ⟨ga, oa + i * 6 + 5, none⟩ = some (.string ⟨ca.t.toArray⟩) ∧
            w'.cell? ⟨gb, ob + i * 6, none⟩ = some (.int .i64 cb.k) ∧ w'.cell? ⟨gb, ob + i * 6 + 1, none⟩ = some (.int .i64 cb.a) ∧ w'.cell? ⟨gb, ob + i * 6 + 2, none⟩ = some (.int .i64 cb.b) ∧
            w'.cell? ⟨gb, ob + i * 6 + 3, none⟩ = some (.int .i64 cb.c) ∧ w'.cell? ⟨gb, ob + i * 6 + 4, none⟩ = some (.string ⟨cb.s.toArray⟩) ∧ w'.cell? ⟨gb, ob + i * 6 + 5, none⟩ = some (.string ⟨cb.t.toArray⟩))
          (first | go_keep | exact hkeep _ hbs)
          (first
            | (go_at_call 16; refine (same_any ca cb _).mono ?_; rintro e ws ⟨rfl, hbs⟩))
        have hbz : Below w.heap.size w ws := hbw.trans ((Below.refl _ _).drew.trans (hbs.mono hbw.size))
        clear hkeep a0 a1 a2 a3 a4 a5 b0 b1 b2 b3 b4 b5
        have HEQ := Lib.hid heq
        clear heq
        by_cases he : ca = cb
        · have hd : decide (ca = cb) = true := by simp [he]
          rw [hd]
          have HE := Lib.hid he
          clear he hd
          go_wp2_with fail
          go_roundw
          case rel =>
            refine ⟨i + 1, by omega, by go_num, ?_, hbz⟩
            rw [List.take_succ_eq_append_getElem hlt, List.take_succ_eq_append_getElem hltb, HEQ.out, HCA.out, HCB.out, HE.out]
          case measure => simp [intOf]; omega
        · have hd : decide (ca = cb) = false := by simp [he]
          rw [hd]
          have hne : decide (la = lb) = false := by
            simp only [decide_eq_false_iff_not]
            rintro rfl
            exact he (HCA.out.symm.trans HCB.out)
          have HE := Lib.hid he
          have HN := Lib.hid hne
          clear he hd hne
          go_wp2
          go_ret
          rw [HN.out]
          exact ⟨rfl, hbz⟩
      · have hd : decide (la = lb) = true := by
          have hi' : i = la.length := by omega
          have hl := HL.out
          rw [hi', List.take_length] at heq
          rw [hl, List.take_length] at heq
          simp [heq]
        have HN := Lib.hid hd
        clear hd heq
        go_wp2
        go_ret
        rw [HN.out]
        exact ⟨rfl, hbw⟩
  · have hd : decide (la = lb) = false := by
      simp only [decide_eq_false_iff_not]
      rintro rfl
      exact hl rfl
    have hlb : ((la.length : Int) != (lb.length : Int)) = true := by simp; omega
    have HN := Lib.hid hd
    clear hd hl
    go_enter Try.func9, Try.ntmps9
    go_wp2
    go_ret
    rw [HN.out]
    exact ⟨rfl, Below.refl _ _⟩
end Go.Proofs.Ytcjahjhpbffcfaa
