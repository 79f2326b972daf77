/-
  RawNumbers: the walk.
-/
import Derived.Test.YtcjahjhpbffcfaaAwake
import Derived.Test.YtcjahjhpbffcfaaPlain
set_option linter.unusedVariables false
namespace Go.Proofs.Ytcjahjhpbffcfaa
open Go.RowKit

theorem conv_new (w : World) (l : List UInt8) (cs : Array Value) (n : Nat) (hn : n = l.length) (hcs : cs = (bv l).toArray) :
    Sem.run Try.prog (convert 33 9 (.slice (some ⟨w.heap.size, 0, none⟩) n n)) (w.alloc (.cells cs 5)) = .ok (.string ⟨l.toArray⟩) (w.alloc (.cells cs 5)) := by
  subst hcs hn
  refine run_convert_bytes_back _ 33 9 5 ⟨w.heap.size, 0, none⟩ l.length l Try.underlying33 Try.underlying5 Try.underlying9 ?_
  intro j hj
  rw [Addr.add_lit, Nat.zero_add, cell_alloc_new]
  simp [bv, hj]

theorem app_list (l r : List UInt8) : (⟨l.toArray⟩ : ByteArray) ++ ⟨r.toArray⟩ = ⟨(l ++ r).toArray⟩ := by
  apply ByteArray.ext
  simp [ByteArray.data_append]

theorem num_enc (x y : Int) (s : List UInt8) : enc ⟨3, x, y, 0, s, []⟩ = 3 :: b1 x :: b1 (x / 256) :: b1 y :: b1 (y / 256) :: b1 s.length :: s := by
  have hp : partsOf 3 = [.a, .b, .t] := by decide
  simp [enc, hp, Part.enc, encPair, encText]
  decide
theorem num_good (x y : Int) (s : List UInt8) (hx : 0 ≤ x ∧ x ≤ 65535) (hy : 0 ≤ y ∧ y ≤ 65535) (hs : s.length ≤ 255) : Good ⟨3, x, y, 0, s, []⟩ := by
  have hp : partsOf 3 = [.a, .b, .t] := by decide
  exact ⟨by simp, by simp, ⟨hx.1, hx.2, hy.1, hy.2, by simp, by simp, hs, by simp⟩, by simp [hp, Part.copy]⟩
theorem num_dec (x y : Int) (s : List UInt8) (hx : 0 ≤ x ∧ x ≤ 65535) (hy : 0 ≤ y ∧ y ≤ 65535) (hs : s.length ≤ 255) :
    dec (3 :: b1 x :: b1 (x / 256) :: b1 y :: b1 (y / 256) :: b1 s.length :: (s ++ 3 :: b1 x :: b1 (x / 256) :: b1 y :: b1 (y / 256) :: b1 s.length :: s)) = [⟨3, x, y, 0, s, []⟩, ⟨3, x, y, 0, s, []⟩] := by
  have e := num_enc x y s
  have h := dec_read ⟨3, x, y, 0, s, []⟩ (enc ⟨3, x, y, 0, s, []⟩) (num_good x y s hx hy hs)
  rw [dec_enc _ (num_good x y s hx hy hs), e] at h
  exact h

theorem num_cut (x y : Int) (n : Nat) (q : List UInt8) (hx : 0 ≤ x ∧ x ≤ 65535) (hy : 0 ≤ y ∧ y ≤ 65535) (hn : n ≤ 255) (hq : q.length ≤ n) :
    dec (3 :: (encPair x ++ (encPair y ++ (b1 n :: q)))) = [⟨3, x, y, 0, q, []⟩] := by
  have hp : partsOf 3 = [.a, .b, .t] := by decide
  have h3 : hd (3 :: (encPair x ++ (encPair y ++ (b1 n :: q)))) = 3 := by simp [hd]
  have hN : textN (b1 n :: q) = q.length := by
    simp only [textN, List.tail_cons]; rw [hd_b1 _ _ (by omega) (by omega)]; omega
  have hV : textV (b1 n :: q) = q := by unfold textV; rw [hN]; simp
  have hR : textR (b1 n :: q) = [] := by unfold textR; rw [hN]; simp
  have ho : one (3 :: (encPair x ++ (encPair y ++ (b1 n :: q)))) = ([], ⟨3, x, y, 0, q, []⟩) := by
    unfold one
    rw [h3, hp]
    simp only [List.tail_cons, runAll, Part.run, (pair_read x _ hx.1 hx.2).1, (pair_read x _ hx.1 hx.2).2, (pair_read y _ hy.1 hy.2).1, (pair_read y _ hy.1 hy.2).2, hV, hR]
  rw [dec_ne (by simp), ho, dec_nil]
theorem num_take (x y : Int) (s : List UInt8) (kk : Int) (h : 0 ≤ kk) :
    List.drop 0 (List.take (6 + kk).toNat (3 :: b1 x :: b1 (x / 256) :: b1 y :: b1 (y / 256) :: b1 s.length :: s)) = 3 :: (encPair x ++ (encPair y ++ (b1 s.length :: s.take kk.toNat))) := by
  have e : (6 + kk).toNat = kk.toNat + 6 := by omega
  rw [e]
  rfl

set_option maxHeartbeats 1000000 in
theorem numbers_any (a b : Int) (s : List UInt8) (cut : Int) (w : World) (ha : -9223372036854775808 ≤ a ∧ a ≤ 9223372036854775807) (hb : -9223372036854775808 ≤ b ∧ b ≤ 9223372036854775807)
    (hc : -9223372036854775808 ≤ cut ∧ cut ≤ 9223372036854775807) (hs : s.length ≤ 9223372036854775807) :
    Calls Try.prog 6 #[.int .i64 a, .int .i64 b, .string ⟨s.toArray⟩, .int .i64 cut] w fun e w' => e = .returned (.bool true) ∧ Below w.heap.size w w' := by
  by_cases h200 : 200 < s.length
  · go_enter Try.func6, Try.ntmps6
    go_wp2_with fail
    refine (awake_any _).mono ?_
    rintro e w1 ⟨rfl, hb1⟩
    go_wp2
    go_ret
    exact ⟨rfl, hb1⟩
  · obtain ⟨x, hx⟩ : ∃ x, a % 65536 = x := ⟨_, rfl⟩
    obtain ⟨y, hy⟩ : ∃ y, b % 65536 = y := ⟨_, rfl⟩
    have hx0 : 0 ≤ x ∧ x ≤ 65535 := by omega
    have hy0 : 0 ≤ y ∧ y ≤ 65535 := by omega
    go_enter Try.func6, Try.ntmps6
    go_wp2_with fail
    refine (place_any a 65536 _ (by omega) (by omega) ha.1 ha.2).mono ?_
    rw [hx]
    rintro e w1 ⟨rfl, rfl⟩
    go_wp2_with fail
    refine (place_any b 65536 _ (by omega) (by omega) hb.1 hb.2).mono ?_
    rw [hy]
    rintro e w1 ⟨rfl, rfl⟩
    clear hx hy
    have hl : s.length ≤ 200 := by omega
    have happ := app_list
    have hconv := conv_new w [3, b1 x, b1 (x / 256), b1 y, b1 (y / 256), b1 s.length]
      #[.int .u8 3, .int .u8 (x % 256), .int .u8 (x / 256), .int .u8 (y % 256), .int .u8 (y / 256), .int .u8 (s.length : Int)] 6 rfl (by
        have e1 : (x / 256) % 256 = x / 256 := by omega
        have e2 : (y / 256) % 256 = y / 256 := by omega
        have e3 : (s.length : Int) % 256 = s.length := by omega
        simp [bv, b1_val, e1, e2, e3])
    go_wp2_with fail
    refine (decode_any _ _ (by simp; omega)).mono ?_
    rintro e w1 ⟨v1, rfl, hr1, hb1⟩
    rw [num_dec x y s hx0 hy0 (by omega)] at hr1
    have hs1 := slc_of_row hr1 rfl
    obtain ⟨a1, cap1, hv1, hc1⟩ := id hs1
    rw [hv1] at hs1 ⊢
    rcases hc1 with hc1 | ⟨g1, o1, rfl, _⟩
    · simp at hc1
    have hbz : Below w.heap.size w w1 := ((Below.refl w.heap.size w).alloc (Nat.le_refl _) _).trans (hb1.mono (by simp))
    clear hconv hr1 hb1
    obtain ⟨kk, hkk⟩ : ∃ kk, cut % ((s.length : Int) + 1) = kk := ⟨_, rfl⟩
    have hk0 : 0 ≤ kk ∧ kk ≤ s.length := by
      have := Int.emod_nonneg cut (b := (s.length : Int) + 1) (by omega)
      have := Int.emod_lt_of_pos cut (b := (s.length : Int) + 1) (by omega)
      omega
    go_wp2_with fail
    refine (place_any cut ((s.length : Int) + 1) _ (by omega) (by omega) hc.1 hc.2).mono ?_
    rw [hkk]
    rintro e w2 ⟨rfl, rfl⟩
    clear hkk
    go_wp2_with fail
    rw [ext_list, num_take x y s kk hk0.1]
    refine (decode_any _ _ (by simp [encPair]; omega)).mono ?_
    rintro e w2 ⟨v2, rfl, hr2, hb2⟩
    rw [num_cut x y s.length (s.take kk.toNat) hx0 hy0 (by omega) (by simp; omega)] at hr2
    have hs2 := slc_of_row hr2 rfl
    obtain ⟨a2, cap2, hv2, hc2⟩ := id hs2
    rw [hv2] at hs2 ⊢
    rcases hc2 with hc2 | ⟨g2, o2, rfl, _⟩
    · simp at hc2
    have hs1' := hs1.on hb2
    have hbz2 := hbz.trans (hb2.mono hbz.size)
    obtain ⟨m0, m1, m2, m3, m4, m5⟩ := hs1'.six 0 (by simp) _ rfl
    obtain ⟨n0, n1, n2, n3, n4, n5⟩ := hs1'.six 1 (by simp) _ rfl
    obtain ⟨p0, p1, p2, p3, p4, p5⟩ := hs2.six 0 (by simp) _ rfl
    simp only [Nat.zero_mul, Nat.add_zero, Nat.one_mul] at m0 m1 m2 m3 m4 m5 n0 n1 n2 n3 n4 n5 p0 p1 p2 p3 p4 p5
    clear hr2 hb2 hs1 hs2 hs1' n3 n4 n5 n0 m1 m2 m3 m5 p0 p3 p5
    have hext : (⟨s.toArray⟩ : ByteArray).extract 0 kk.toNat = ⟨(s.take kk.toNat).toArray⟩ := by rw [ext_list]; simp
    have hkeep : ∀ w', Below w2.heap.size w2 w' → w'.cell? ⟨g1, o1, none⟩ = some (.int .i64 3) ∧ w'.cell? ⟨g1, o1 + 6 + 1, none⟩ = some (.int .i64 x) ∧ w'.cell? ⟨g1, o1 + 6 + 2, none⟩ = some (.int .i64 y) ∧ w'.cell? ⟨g1, o1 + 4, none⟩ = some (.string ⟨s.toArray⟩) ∧ w'.cell? ⟨g2, o2 + 1, none⟩ = some (.int .i64 x) ∧ w'.cell? ⟨g2, o2 + 2, none⟩ = some (.int .i64 y) ∧ w'.cell? ⟨g2, o2 + 4, none⟩ = some (.string ⟨(s.take kk.toNat).toArray⟩) := fun w' hb => by
      have cell : ∀ {g o : Nat} {v : Value}, w2.cell? ⟨g, o, none⟩ = some v → w'.cell? ⟨g, o, none⟩ = some v := fun {g o v} h => by
        rw [hb.cell (p := ⟨g, o, none⟩) (World.block_lt_of_cell? w2 _ h)]; exact h
      exact ⟨cell m0, cell n1, cell n2, cell m4, cell p1, cell p2, cell p4⟩
    go_wp2_with fail
    dsimp only [List.append]
    go_region_held3 (fun w' => w'.cell? ⟨g1, o1, none⟩ = some (.int .i64 3) ∧ w'.cell? ⟨g1, o1 + 6 + 1, none⟩ = some (.int .i64 x) ∧ w'.cell? ⟨g1, o1 + 6 + 2, none⟩ = some (.int .i64 y) ∧ w'.cell? ⟨g1, o1 + 4, none⟩ = some (.string ⟨s.toArray⟩) ∧ w'.cell? ⟨g2, o2 + 1, none⟩ = some (.int .i64 x) ∧ w'.cell? ⟨g2, o2 + 2, none⟩ = some (.int .i64 y) ∧ w'.cell? ⟨g2, o2 + 4, none⟩ = some (.string ⟨(s.take kk.toNat).toArray⟩))
      (first | go_keep | exact hkeep _ ((Below.refl _ _).drew.trans hb3))
      (first
        | (go_at_call 12; refine (awake_any _).mono ?_; rintro e w3 ⟨rfl, hb3⟩))
    have hbf : Below w.heap.size w w3 := hbz2.trans (((Below.refl w2.heap.size w2).drew.trans hb3).mono hbz2.size)
    clear hkeep m0 m4 n1 n2 p1 p2 p4 hext happ
    go_wp2
    go_ret
    exact ⟨rfl, hbf⟩
end Go.Proofs.Ytcjahjhpbffcfaa
