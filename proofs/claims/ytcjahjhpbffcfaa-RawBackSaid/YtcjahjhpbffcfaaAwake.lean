/-
  awake: the document's example.
-/
import Derived.Test.YtcjahjhpbffcfaaEnc2
set_option linter.unusedVariables false
namespace Go.Proofs.Ytcjahjhpbffcfaa
open Go.RowKit

theorem one_of {k : UInt8} {s : List UInt8} (h : partsOf (k.toNat : Int) = []) : one (k :: s) = (s, ⟨k.toNat, 0, 0, 0, [], []⟩) := by
  simp [one, hd, h, runAll]
theorem dec_45 : dec [4, 5] = [⟨4, 0, 0, 0, [], []⟩, ⟨5, 0, 0, 0, [], []⟩] := by
  rw [dec_ne (by simp), one_of (by decide), dec_ne (by simp), one_of (by decide), dec_nil]
  rfl
theorem dec_4 : dec [4] = [⟨4, 0, 0, 0, [], []⟩] := by
  rw [dec_ne (by simp), one_of (by decide), dec_nil]; rfl
theorem dec_5 : dec [5] = [⟨5, 0, 0, 0, [], []⟩] := by
  rw [dec_ne (by simp), one_of (by decide), dec_nil]; rfl
theorem enc_4 : enc ⟨4, 0, 0, 0, [], []⟩ = [4] := by decide
theorem enc_5 : enc ⟨5, 0, 0, 0, [], []⟩ = [5] := by decide
theorem ok_45 : okAll [⟨4, 0, 0, 0, [], []⟩, ⟨5, 0, 0, 0, [], []⟩] = true := by
  simp [okAll, okC, enc_4, enc_5, dec_4, dec_5]

theorem awake_any (w : World) : Calls Try.prog 12 #[] w fun e w' => e = .returned (.bool true) ∧ Below w.heap.size w w' := by
  go_enter Try.func12, Try.ntmps12
  go_wp2_with fail
  refine (decode_any [4, 5] _ (by simp)).mono ?_
  rintro e w1 ⟨v1, rfl, hr1, hb1⟩
  rw [dec_45] at hr1
  have hs1 := slc_of_row hr1 rfl
  obtain ⟨a1, cap1, hv1, hc1⟩ := id hs1
  rw [hv1] at hs1 ⊢
  rcases hc1 with hc1 | ⟨g1, o1, rfl, _⟩
  · simp at hc1
  obtain ⟨m0, _, _, _, _, _⟩ := hs1.six 0 (by simp) _ rfl
  obtain ⟨n0, _, _, _, _, _⟩ := hs1.six 1 (by simp) _ rfl
  simp only [Nat.zero_mul, Nat.add_zero, Nat.one_mul] at m0 n0
  go_wp2_with fail
  refine (encode_any _ _ _ hs1 (by simp) ?_).mono ?_
  · intro c hc
    simp at hc
    rcases hc with rfl | rfl
    · simp [enc_4]
    · simp [enc_5]
  rintro e w2 ⟨rfl, hb2⟩
  have m1 : w2.cell? ⟨g1, o1, none⟩ = some (.int .i64 4) := by rw [hb2.cell (p := ⟨g1, o1, none⟩) (World.block_lt_of_cell? w1 _ m0)]; exact m0
  have n1 : w2.cell? ⟨g1, o1 + 6, none⟩ = some (.int .i64 5) := by rw [hb2.cell (p := ⟨g1, o1 + 6, none⟩) (World.block_lt_of_cell? w1 _ n0)]; exact n0
  have hE : encS [⟨4, 0, 0, 0, [], []⟩, ⟨5, 0, 0, 0, [], []⟩] = [4, 5] := by
    simp [encS, ok_45, enc_4, enc_5]
  rw [hE, ok_45]
  have hbz := hb1.trans (hb2.mono hb1.size)
  clear m0 n0 hE hs1 hr1
  go_wp2
  go_ret
  exact ⟨rfl, hbz⟩
end Go.Proofs.Ytcjahjhpbffcfaa
