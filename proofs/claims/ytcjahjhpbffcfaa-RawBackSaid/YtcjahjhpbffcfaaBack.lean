/-
  RawBack: the walk.
-/
import Derived.Test.YtcjahjhpbffcfaaCmds
set_option linter.unusedVariables false
namespace Go.Proofs.Ytcjahjhpbffcfaa
open Go.RowKit

theorem row_form {w : World} {base e size n : Nat} {v : Value} {xs : List Value} (h : w.ownsRow base e size v n xs) :
    (v = .slice none 0 0 ∧ n = 0) ∨ ∃ g cap, v = .slice (some ⟨g, 0, none⟩) n cap ∧ n ≤ cap ∧ cap ≤ 9223372036854775807 := by
  rcases h.2 with h | ⟨g, cap, cur, hv, _, _, h1, h2, _⟩
  · exact .inl h
  · exact .inr ⟨g, cap, hv, h1, by simpa [maxLen] using h2⟩
theorem cellsOf_append (a b : List C) : cellsOf (a ++ b) = cellsOf a ++ cellsOf b := List.flatMap_append
theorem enc_len' (c : C) : (enc c).length ≤ 20 + c.s.length + c.t.length := by
  unfold enc partsOf
  repeat' split
  all_goals (simp [Part.enc, encPair, encText]; try omega)
theorem cut_facts {cs la : List C} {n : Nat} (hn : n ≤ cs.length) (h : la = cs.take n ∨ (n < cs.length ∧ ∃ x, la = cs.take n ++ [x])) : la.length ≤ cs.length ∧ la.take (la.length - 1) = cs.take (la.length - 1) := by
  rcases h with rfl | ⟨hlt, x, rfl⟩
  · rw [List.length_take, Nat.min_eq_left hn, List.take_take]
    exact ⟨hn, by rw [Nat.min_eq_left (by omega)]⟩
  · have e : (cs.take n ++ [x]).length = n + 1 := by simp; omega
    rw [e, Nat.add_sub_cancel]
    refine ⟨hlt, ?_⟩
    rw [List.take_append_of_le_length (by simp; omega), List.take_take, Nat.min_self]
theorem SlC.take {w : World} {g off n cap k : Nat} {l : List C} (h : SlC w (.slice (some ⟨g, off, none⟩) n cap) l) (hk : k ≤ l.length) : SlC w (.slice (some ⟨g, off, none⟩) k cap) (l.take k) := by
  obtain ⟨a, cap', hv, h⟩ := h
  simp at hv
  obtain ⟨rfl, rfl, rfl⟩ := hv
  refine ⟨_, cap, by rw [List.length_take, Nat.min_eq_left hk], ?_⟩
  rcases h with h | ⟨g', off', ha, hc⟩
  · left; rw [h]; simp
  · right
    simp at ha
    obtain ⟨rfl, rfl⟩ := ha
    refine ⟨g, off, rfl, fun i u hu => hc i u ?_⟩
    have e : cellsOf l = cellsOf (l.take k) ++ cellsOf (l.drop k) := by
      rw [← cellsOf_append, List.take_append_drop]
    rw [e, List.getElem?_append_left (List.getElem?_eq_some_iff.1 hu).1]
    exact hu
theorem SlC.drew {w : World} {v : Value} {l : List C} (h : SlC w v l) : SlC w.drew v l := h
theorem good_all {cs : List C} (h : ∀ c ∈ cs, Mild c) : okAll cs = true := by
  simp only [okAll, List.all_eq_true]
  exact fun c hc => okC_good c (h c hc).1
theorem mild_bounds {cs : List C} (h : ∀ c ∈ cs, Mild c) : ∀ c ∈ cs, c.s.length ≤ 100000 ∧ c.t.length ≤ 100000 ∧ (enc c).length ≤ 300000 := by
  intro c hc
  obtain ⟨_, h1, h2⟩ := h c hc
  have := enc_len' c
  omega
theorem flat_bound (cs : List C) (h : ∀ c ∈ cs, Mild c) (hl : cs.length ≤ 120) : (cs.flatMap enc).length ≤ 36000000 := by
  have := flat_enc_len cs cs.length (fun c hc => (mild_bounds h c hc).2.2)
  rw [List.take_length] at this
  omega

set_option maxRecDepth 100000 in
set_option maxHeartbeats 4000000 in
theorem back_any (a : Option Addr) (len cap : Nat) (zs : List Int) (at_ : Int) (w : World) (ha : -9223372036854775808 ≤ at_ ∧ at_ ≤ 9223372036854775807) (hm : cap ≤ 9223372036854775807) (hlen : len ≤ cap)
    (hz : ∀ (i : Nat), i < len → ∃ g off, a = some ⟨g, off, none⟩ ∧ w.cell? ⟨g, off + i, none⟩ = some (.int .i64 (zs.getD i 0)))
    (hw : ∀ (i : Nat), i < len → -9223372036854775808 ≤ zs.getD i 0 ∧ zs.getD i 0 ≤ 9223372036854775807) :
    Calls Try.prog 3 #[.slice a len cap, .int .i64 at_] w fun e w' => e = .returned (.bool true) ∧ Below w.heap.size w w' := by
  have hext := ext_list
  go_enter Try.func3, Try.ntmps3
  go_wp2_with fail
  refine (cmds_any a len cap zs _ hm hlen hz hw).mono ?_
  rintro e w1 ⟨vm, cs, rfl, hcl, hcs, hrow1, hb1⟩
  clear hz hw
  have hok := good_all hcs
  have hfl := flat_bound cs hcs hcl
  have hE : encS cs = cs.flatMap enc := by unfold encS; rw [if_pos hok]
  have hD := dec_all cs (fun c hc => (hcs c hc).1)
  have hcut := dec_cut cs (fun c hc => (hcs c hc).1)
  have hbd := mild_bounds hcs
  generalize cs.flatMap enc = L at *
  have HD := Lib.hid hD
  have HC := Lib.hid hcut
  have HE := Lib.hid hE
  clear hD hcut hE hcs
  go_wp2_with fail
  refine (encode_any vm cs _ (slc_of_row hrow1 rfl) (by omega) hbd).mono ?_
  rw [HE.out, hok]
  rintro e w2 ⟨rfl, hb2⟩
  clear hok hbd
  have hrow2 := below_kept hrow1 hb2
  have hbz2 := hb1.trans (hb2.mono hb1.size)
  go_wp2_with fail
  refine (decode_any L _ (by omega)).mono ?_
  rintro e w3 ⟨v3, rfl, hr3, hb3⟩
  rw [HD.out] at hr3
  have hrow3 := below_kept hrow2 hb3
  have hbz3 := hbz2.trans (hb3.mono hbz2.size)
  go_wp2_with fail
  refine (sameAll_any v3 vm cs cs _ (slc_of_row hr3 rfl) (slc_of_row hrow3 rfl) (by omega) (by omega)).mono ?_
  rintro e w4 ⟨rfl, hb4⟩
  have hrow4 := below_kept hrow3 hb4
  have hbz4 := hbz3.trans (hb4.mono hbz3.size)
  have hdec : decide (cs = cs) = true := by simp
  rw [hdec]
  clear hdec hrow1 hrow2 hr3 hrow3 hb1 hb2 hb3 hb4 hbz2 hbz3
  obtain ⟨kk, hkk⟩ : ∃ kk, at_ % ((L.length : Int) + 1) = kk := ⟨_, rfl⟩
  have hk0 : 0 ≤ kk ∧ kk ≤ L.length := by
    have := Int.emod_nonneg at_ (b := (L.length : Int) + 1) (by omega)
    have := Int.emod_lt_of_pos at_ (b := (L.length : Int) + 1) (by omega)
    omega
  go_wp2_with fail
  refine (place_any at_ ((L.length : Int) + 1) _ (by omega) (by omega) ha.1 ha.2).mono ?_
  rw [hkk]
  rintro e w5 ⟨rfl, rfl⟩
  clear hkk
  go_wp2_with fail
  refine (decode_any _ _ (by simp; omega)).mono ?_
  rintro e w5 ⟨v5, rfl, hr5, hb5⟩
  have hrow5 := below_kept hrow4 hb5
  have hbz5 := hbz4.trans (hb5.mono hbz4.size)
  obtain ⟨n, hn, hcase⟩ := HC.out kk.toNat
  obtain ⟨hq, hqt⟩ := cut_facts hn hcase
  generalize dec (List.take kk.toNat L) = la at *
  clear hcase hn
  have HQT := Lib.hid hqt
  clear hqt hrow4
  obtain ⟨q, hql⟩ : ∃ q, la.length = q := ⟨_, rfl⟩
  rw [hql] at hr5 hq HQT
  have HQL := Lib.hid hql
  clear hql
  have hsl5 := slc_of_row hr5 HQL.out.symm
  have hslm := slc_of_row hrow5 rfl
  by_cases hq0 : q = 0
  · subst hq0
    have hv5 : ∃ a5 c5, v5 = .slice a5 0 c5 := ownsRow_slice hr5
    obtain ⟨a5, c5, hv5⟩ := hv5
    obtain ⟨am, cm, hvm⟩ := ownsRow_slice hrow5
    rw [hv5, hvm]
    clear hr5 hsl5 hslm hrow5 hv5 hvm
    have hd1 : decide ((cs.length : Int) < 0) = false := by simp
    go_wp2_with fail
    go_quiet (fail)
    go_wp2_with fail
    refine (decode_any [] _ (by simp)).mono ?_
    rintro e w6 ⟨v6, rfl, hr6, hb6⟩
    rw [dec_nil] at hr6
    obtain ⟨a6, c6, hv6⟩ := ownsRow_slice hr6
    rw [hv6]
    have hbz6 := (hbz5.trans (below_drewN _ _ _)).trans (hb6.mono hbz5.size)
    go_wp2_with fail
    refine (awake_any _).mono ?_
    rintro e w7 ⟨rfl, hb7⟩
    go_wp2
    go_ret
    exact ⟨rfl, hbz6.trans (hb7.mono hbz6.size)⟩
  · rcases row_form hr5 with ⟨_, h0⟩ | ⟨g5, c5, hv5, hc5, hc5'⟩
    · exact absurd h0 hq0
    rcases row_form hrow5 with ⟨_, h0⟩ | ⟨gm, cm, hvm, hcm, hcm'⟩
    · omega
    rw [hv5] at hsl5 ⊢
    rw [hvm] at hslm ⊢
    clear hr5 hrow5
    have hq1 : 0 < q := by omega
    have hst5 := hsl5.take (k := q - 1) (by rw [HQL.out]; omega)
    have hstm := hslm.take (k := q - 1) (by omega)
    rw [HQT.out] at hst5
    clear hsl5 hslm
    have hd1 : decide ((cs.length : Int) < (q : Int)) = false := by simp; omega
    have hd2 : decide ((0 : Int) < (q : Int)) = true := by simp; omega
    have hs1 : (q : Int) - 1 ≤ (c5 : Int) := by omega
    have hs2 : (q : Int) - 1 ≤ (cm : Int) := by omega
    have hs3 : 0 ≤ (q : Int) - 1 := by omega
    have hs6 : (1 : Int) ≤ (q : Int) := by omega
    have hs4 : ((q : Int) - 1).toNat = q - 1 := by omega
    have hs5 : IntKind.i64.wrap ((q : Int) - 1) = (q : Int) - 1 := by rw [IntKind.wrap_i64]; omega
    have hn1 : decide (cs.length < q) = false := by simp; omega
    have hn2 : decide (0 < q) = true := by simp; omega
    go_wp2_with fail
    go_region_held3 (fun _ => True) (first | exact True.intro)
      (first
        | (go_at_call 9; refine (sameAll_any _ _ (cs.take (q - 1)) (cs.take (q - 1)) _ hst5.drew hstm.drew (by simp; omega) (by simp; omega)).mono ?_; rintro e w6 ⟨rfl, hb6⟩))
    all_goals (
      have hbz6 := hbz5.trans ((below_drewN w.heap.size w5 1).trans (hb6.mono hbz5.size))
      go_wp2_with fail
      refine (decode_any [] _ (by simp)).mono ?_
      rintro e w7 ⟨v7, rfl, hr7, hb7⟩
      rw [dec_nil] at hr7
      obtain ⟨a7, c7, hv7⟩ := ownsRow_slice hr7
      rw [hv7]
      have hbz7 := hbz6.trans (hb7.mono hbz6.size)
      go_wp2_with fail
      refine (awake_any _).mono ?_
      rintro e w8 ⟨rfl, hb8⟩
      go_wp2
      go_ret
      exact ⟨rfl, hbz7.trans (hb8.mono hbz7.size)⟩)
end Go.Proofs.Ytcjahjhpbffcfaa
