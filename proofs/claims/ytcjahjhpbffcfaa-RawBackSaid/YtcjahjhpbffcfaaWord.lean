/-
  The words, pieces and commands by numbers: some text of few bytes.
-/
import Derived.Test.YtcjahjhpbffcfaaAwake
import Derived.Test.YtcjahjhpbffcfaaPlain
import Derived.BigRegion
set_option linter.unusedVariables false
namespace Go.Proofs.Ytcjahjhpbffcfaa
open Go.RowKit

def wordsA : Array Value := #[.string ⟨#[99, 97, 116]⟩, .string ⟨#[100, 111, 103]⟩, .string ⟨#[99, 105, 116, 121]⟩, .string ⟨#[100, 111]⟩, .string ⟨#[100, 111, 110, 101]⟩, .string ⟨#[80, 97, 114, 105, 115]⟩, .string ⟨#[105, 116, 39, 115]⟩, .string ⟨#[104, 111, 112, 101]⟩, .string ⟨#[109, 97, 107, 101]⟩, .string ⟨#[116, 97, 112]⟩, .string ⟨#[116, 111, 112]⟩, .string ⟨#[116, 111, 112, 115]⟩, .string ⟨#[116, 97, 112, 115]⟩, .string ⟨#[98, 101]⟩, .string ⟨#[195, 150, 108]⟩, .string ⟨#[195, 182, 100, 101]⟩, .string ⟨#[78, 65, 84, 79]⟩, .string ⟨#[97]⟩, .string ⟨#[114, 117, 110]⟩, .string ⟨#[114, 117, 110, 115]⟩, .string ⟨#[116, 114, 121]⟩, .string ⟨#[116, 114, 105, 101, 115]⟩, .string ⟨#[104, 111, 117, 115, 101]⟩, .string ⟨#[109, 111, 117, 115, 101]⟩]

set_option maxRecDepth 100000 in
theorem words_any (w : World) : Calls Try.prog 19 #[] w fun e w' => e = .returned (.agg wordsA) ∧ Below w.heap.size w w' := by
  unfold wordsA
  go_enter Try.func19, Try.ntmps19
  generalize (⟨#[99, 97, 116]⟩ : ByteArray) = s0
  generalize (⟨#[100, 111, 103]⟩ : ByteArray) = s1
  generalize (⟨#[99, 105, 116, 121]⟩ : ByteArray) = s2
  generalize (⟨#[100, 111]⟩ : ByteArray) = s3
  generalize (⟨#[100, 111, 110, 101]⟩ : ByteArray) = s4
  generalize (⟨#[80, 97, 114, 105, 115]⟩ : ByteArray) = s5
  generalize (⟨#[105, 116, 39, 115]⟩ : ByteArray) = s6
  generalize (⟨#[104, 111, 112, 101]⟩ : ByteArray) = s7
  generalize (⟨#[109, 97, 107, 101]⟩ : ByteArray) = s8
  generalize (⟨#[116, 97, 112]⟩ : ByteArray) = s9
  generalize (⟨#[116, 111, 112]⟩ : ByteArray) = s10
  generalize (⟨#[116, 111, 112, 115]⟩ : ByteArray) = s11
  generalize (⟨#[116, 97, 112, 115]⟩ : ByteArray) = s12
  generalize (⟨#[98, 101]⟩ : ByteArray) = s13
  generalize (⟨#[195, 150, 108]⟩ : ByteArray) = s14
  generalize (⟨#[195, 182, 100, 101]⟩ : ByteArray) = s15
  generalize (⟨#[78, 65, 84, 79]⟩ : ByteArray) = s16
  generalize (⟨#[97]⟩ : ByteArray) = s17
  generalize (⟨#[114, 117, 110]⟩ : ByteArray) = s18
  generalize (⟨#[114, 117, 110, 115]⟩ : ByteArray) = s19
  generalize (⟨#[116, 114, 121]⟩ : ByteArray) = s20
  generalize (⟨#[116, 114, 105, 101, 115]⟩ : ByteArray) = s21
  generalize (⟨#[104, 111, 117, 115, 101]⟩ : ByteArray) = s22
  generalize (⟨#[109, 111, 117, 115, 101]⟩ : ByteArray) = s23
  iterate 14 (first | go_guarded | go_step | go_upon)
  refine wpList_store_row rfl 50 _ _ rfl w.heap.size _ rfl rfl 50 _ (heap_alloc_new w _) (by kernel_rfl) rfl (by simp [Value.oneCell']) ?_
  go_wp2
  have hrow := setRow_heap (w.alloc (.cells #[.string { data := #[] }, .string { data := #[] }, .string { data := #[] }, .string { data := #[] }, .string { data := #[] }, .string { data := #[] }, .string { data := #[] }, .string { data := #[] }, .string { data := #[] }, .string { data := #[] }, .string { data := #[] }, .string { data := #[] }, .string { data := #[] }, .string { data := #[] }, .string { data := #[] }, .string { data := #[] }, .string { data := #[] }, .string { data := #[] }, .string { data := #[] }, .string { data := #[] }, .string { data := #[] }, .string { data := #[] }, .string { data := #[] }, .string { data := #[] }] 50)) w.heap.size _ #[.string s0, .string s1, .string s2, .string s3, .string s4, .string s5, .string s6, .string s7, .string s8, .string s9, .string s10, .string s11, .string s12, .string s13, .string s14, .string s15, .string s16, .string s17, .string s18, .string s19, .string s20, .string s21, .string s22, .string s23] 50 (0, 0) (heap_alloc_new w _)
  have hbel : Below w.heap.size w ((w.alloc (.cells #[.string { data := #[] }, .string { data := #[] }, .string { data := #[] }, .string { data := #[] }, .string { data := #[] }, .string { data := #[] }, .string { data := #[] }, .string { data := #[] }, .string { data := #[] }, .string { data := #[] }, .string { data := #[] }, .string { data := #[] }, .string { data := #[] }, .string { data := #[] }, .string { data := #[] }, .string { data := #[] }, .string { data := #[] }, .string { data := #[] }, .string { data := #[] }, .string { data := #[] }, .string { data := #[] }, .string { data := #[] }, .string { data := #[] }, .string { data := #[] }] 50)).setRow w.heap.size #[.string s0, .string s1, .string s2, .string s3, .string s4, .string s5, .string s6, .string s7, .string s8, .string s9, .string s10, .string s11, .string s12, .string s13, .string s14, .string s15, .string s16, .string s17, .string s18, .string s19, .string s20, .string s21, .string s22, .string s23]) := by
    refine ⟨rfl, rfl, rfl, by simp, fun k hk => ?_⟩
    rw [setRow_other _ _ _ _ (by omega), heap_alloc_old _ _ hk]
  have hload := run_loadVar_row (P := Try.prog) _ w.heap.size 50 50 _ (0, 0) _ hrow Try.underlying50 rfl (by kernel_rfl)
  refine bodyPost_ret (v := .agg #[.string s0, .string s1, .string s2, .string s3, .string s4, .string s5, .string s6, .string s7, .string s8, .string s9, .string s10, .string s11, .string s12, .string s13, .string s14, .string s15, .string s16, .string s17, .string s18, .string s19, .string s20, .string s21, .string s22, .string s23]) ?_ rfl ⟨rfl, hbel⟩
  simp only [results, Try.results19]
  simp only [Act.put]
  simp [asAddr]
  rw [hload]
theorem run_index_arr (t n : Nat) (h : Try.prog.underlying t = some (.array n 9)) (cs : Array Value) (j : Int) (v : Value) (h0 : 0 ≤ j) (h1 : j < n) (hv : cs[j.toNat]? = some v) (w : World) :
    Sem.run Try.prog (Instr.index t (.agg cs) (.int .i64 j)) w = .ok v w := by
  have hs : (Try.prog.info? 9).map (fun i => (i.zero, i.size, i.bytes)) = some (some (.string ByteArray.empty), 1, 16) := by kernel_rfl
  obtain ⟨i0, hi0, hz0, hz1, hz2⟩ := info_parts hs
  have hb : 0 ≤ j ∧ j < (n : Int) := ⟨h0, h1⟩
  simp [Instr.index, run_underlying h, asIntOf, hb, part, isAgg, run_underlying Try.underlying9, sizeOf, typeInfo, hi0, hz1, hv]
theorem word_in (j : Int) (h0 : 0 ≤ j) (h1 : j < 24) : ∃ s : List UInt8, wordsA[j.toNat]? = some (.string ⟨s.toArray⟩) ∧ 0 < s.length ∧ s.length ≤ 6 := by
  have : j = 0 ∨ j = 1 ∨ j = 2 ∨ j = 3 ∨ j = 4 ∨ j = 5 ∨ j = 6 ∨ j = 7 ∨ j = 8 ∨ j = 9 ∨ j = 10 ∨ j = 11 ∨ j = 12 ∨ j = 13 ∨ j = 14 ∨ j = 15 ∨ j = 16 ∨ j = 17 ∨ j = 18 ∨ j = 19 ∨ j = 20 ∨ j = 21 ∨ j = 22 ∨ j = 23 := by omega
  rcases this with rfl | rfl | rfl | rfl | rfl | rfl | rfl | rfl | rfl | rfl | rfl | rfl | rfl | rfl | rfl | rfl | rfl | rfl | rfl | rfl | rfl | rfl | rfl | rfl <;> exact ⟨_, rfl, by decide, by decide⟩

theorem conv_int1 (w : World) (z : Int) : Sem.run Try.prog (convert 33 9 (.slice (some ⟨w.heap.size, 0, none⟩) 1 1)) (w.alloc (.cells #[.int .u8 z] 5)).drew = .ok (.string ⟨[UInt8.ofNat z.toNat].toArray⟩) (w.alloc (.cells #[.int .u8 z] 5)).drew := by
  rw [run_convert_bytes_string _ 33 9 5 _ _ _ Try.underlying33 Try.underlying5 Try.underlying9]
  have hl := run_loadCells_list (P := Try.prog) (w.alloc (.cells #[.int .u8 z] 5)).drew ⟨w.heap.size, 0, none⟩ [.int .u8 z] (fun j v hj => by
    rw [Addr.add_lit, Nat.zero_add]
    show (w.alloc (.cells #[.int .u8 z] 5)).cell? _ = _
    have := cell_alloc_new w [.int .u8 z] 5 j (0, 0)
    rw [← hj]; exact this)
  rw [run_bytesToString _ ⟨w.heap.size, 0, none⟩ 1 1 [z] (by simpa using hl)]
  rfl

theorem conv_bytes (w : World) (s : List UInt8) : ∃ cap w2 cur, Sem.run Try.prog (convert 9 33 (.string ⟨s.toArray⟩)) w = .ok (.slice (some ⟨w.heap.size, 0, none⟩) s.length cap) w2 ∧
    w2.heap[w.heap.size]? = some (.cells cur 5 (cur.size, cur.size + 1)) ∧ s.length ≤ cur.size ∧ cur.toList.take s.length = bv s ∧ Below w.heap.size w w2 := by
  have h := run_bytes_of_string (P := Try.prog) w 9 33 5 ⟨s.toArray⟩ Try.underlying9 Try.underlying33 Try.underlying5
  rw [size_list] at h
  refine ⟨_, _, _, h, heap_alloc_new w.drew _, ?_, ?_, ((Below.refl _ w).drew).alloc (Nat.le_refl _) _⟩
  · simp [bytesRow]
  · simp [bytesRow, bv]
/-- The loop over a word's bytes. -/
def UpI (w0 : World) (B n : Nat) (v : Value) (wr : World) : Prop :=
  ∃ (i : Nat) (cu : Array Value) (l : List UInt8), i ≤ n ∧ v = .int .i64 i ∧ wr.heap[B]? = some (.cells cu 5 (cu.size, cu.size + 1)) ∧ n ≤ cu.size ∧ l.length = n ∧ cu.toList.take n = bv l ∧ Below w0.heap.size w0 wr
theorem up_cell {w : World} {B n : Nat} {cu : Array Value} {fz : Nat × Nat} {l : List UInt8} (h : w.heap[B]? = some (.cells cu 5 fz)) (ht : cu.toList.take n = bv l) (hl : l.length = n) :
    ∀ j, (hj : j < l.length) → w.cell? ⟨B, j, none⟩ = some (.int .u8 (l[j].toNat : Int)) := by
  intro j hj
  have h1 : (cu.toList.take n)[j]? = some (.int .u8 (l[j].toNat : Int)) := by rw [ht]; simp [bv, hj]
  rw [List.getElem?_take, if_pos (by omega)] at h1
  simpa [World.cell?, h] using h1

def WordPost (w : World) (e : Ending) (w' : World) : Prop := ∃ s : List UInt8, s.length ≤ 10 ∧ e = .returned (.string ⟨s.toArray⟩) ∧ Below w.heap.size w w'

theorem app_str (l r : List UInt8) : (⟨l.toArray⟩ : ByteArray) ++ ⟨r.toArray⟩ = ⟨(l ++ r).toArray⟩ := by
  apply ByteArray.ext
  simp [ByteArray.data_append]

set_option maxHeartbeats 1000000 in
theorem word_any (v : Int) (w : World) (hv : -9223372036854775808 ≤ v ∧ v ≤ 9223372036854775807) : Calls Try.prog 14 #[.int .i64 v] w (WordPost w) := by
  obtain ⟨k, hk⟩ : ∃ k, v % 16777216 = k := ⟨_, rfl⟩
  have hk0 : 0 ≤ k ∧ k < 16777216 := by omega
  obtain ⟨s, hs, hs0, hs1⟩ := word_in (k % 24) (by omega) (by omega)
  have hidx := run_index_arr 50 24 Try.underlying50 wordsA (k % 24) _ (by omega) (by omega) hs
  have HS := Lib.hid hs
  clear hs
  have hq : k / 24 % 9 = 0 ∨ k / 24 % 9 = 1 ∨ k / 24 % 9 = 2 ∨ k / 24 % 9 = 3 ∨ k / 24 % 9 = 4 ∨ k / 24 % 9 = 5 ∨ k / 24 % 9 = 6 ∨ k / 24 % 9 = 7 ∨ k / 24 % 9 = 8 := by omega
  have happ := app_str
  go_enter Try.func14, Try.ntmps14
  go_wp2_with fail
  refine (place_any v 16777216 _ (by omega) (by omega) hv.1 hv.2).mono ?_
  rw [hk]
  rintro e w1 ⟨rfl, rfl⟩
  clear hk
  go_wp2_with fail
  refine (words_any _).mono ?_
  rintro e w1 ⟨rfl, hb1⟩
  rcases hq with hq | hq | hq | hq | hq | hq | hq | hq | hq
  · go_wp2_with fail
    go_ret
    exact ⟨s ++ [115], by simp; omega, rfl, hb1⟩
  · go_wp2_with fail
    go_ret
    exact ⟨117 :: 110 :: s, by simp; omega, rfl, hb1⟩
  · by_cases hl : 1 < s.length
    · have hext := ext_list s
      go_wp2_with fail
      go_region
      go_wp2
      go_ret
      exact ⟨_, by simp; omega, rfl, hb1.trans (Below.refl _ _).drew⟩
    · go_wp2_with fail
      go_ret
      exact ⟨s, by omega, rfl, hb1⟩
  · go_wp2_with fail
    go_ret
    exact ⟨s ++ [120], by simp; omega, rfl, hb1⟩
  · by_cases hl : 2 < s.length
    · have hext := ext_list s
      go_wp2_with fail
      go_ret
      exact ⟨_, by simp; omega, rfl, hb1⟩
    · go_wp2_with fail
      go_ret
      exact ⟨s, by omega, rfl, hb1⟩
  · obtain ⟨cap, w2, cur, hcv, hh, hsz, htk, hb2⟩ := conv_bytes w1 s
    have hbz := hb1.trans (hb2.mono hb1.size)
    go_wp2_with fail
    clear hcv
    go_loopw [6] (fun v wr => UpI w w1.heap.size s.length v wr) (fun v _ => s.length - (intOf v).toNat)
    case atStart => exact ⟨0, cur, s, Nat.zero_le _, rfl, hh, hsz, rfl, htk, hbz⟩
    case round =>
      obtain ⟨i, cu, l, hi, rfl, hc, hcs, hl, htl, hbr⟩ := hrel
      have HTL := Lib.hid htl
      have HL := Lib.hid hl
      have HC := Lib.hid hc
      have hcell : ∀ j, (hj : j < l.length) → wr.cell? ⟨w1.heap.size, j, none⟩ = some (.int .u8 (l[j].toNat : Int)) := up_cell hc htl hl
      have hfr : ∀ j, j < s.length → wr.frozen? ⟨w1.heap.size, j, none⟩ = false := fun j hj => by
        simp [World.frozen?, hc]; omega
      clear hc htl hl
      by_cases hlt : i < s.length
      · have hil : i < l.length := by have := HL.out; omega
        have hci := hcell i hil
        have hfi := hfr i hlt
        have hx := l[i].toNat_lt
        obtain ⟨x, hxe⟩ : ∃ x, l[i] = x := ⟨_, rfl⟩
        rw [hxe] at hci hx
        clear hcell hfr
        by_cases h1 : 97 ≤ (x.toNat : Int) ∧ (x.toNat : Int) ≤ 122
        · obtain ⟨h1a, h1b⟩ := h1
          go_wp2_with fail
          go_roundw
          case rel =>
            have hl := HL.out
            have hset := heap_setCell_same (off := i) (v := .int .u8 ((x.toNat : Int) - 32)) HC.out
            refine ⟨i + 1, cu.setIfInBounds i (.int .u8 ((x.toNat : Int) - 32)), l.set i (UInt8.ofNat (x.toNat - 32)), by omega, by go_num, by rw [hset, Array.size_setIfInBounds], by simpa using hcs, by simpa using hl, ?_, hbr.setCell (p := ⟨w1.heap.size, i, none⟩) hb1.size _⟩
            rw [Array.toList_setIfInBounds, List.take_set, HTL.out, bv, bv, List.map_set]
            congr 1
            have : (UInt8.ofNat (x.toNat - 32)).toNat = x.toNat - 32 := by rw [UInt8.toNat_ofNat', Nat.mod_eq_of_lt (by omega)]
            rw [this]
            congr 1
            omega
          case measure => simp [intOf]; omega
        · have hno : ¬ (97 ≤ (x.toNat : Int)) ∨ ¬ ((x.toNat : Int) ≤ 122) := by omega
          rcases hno with hno | hno
          · go_wp2_with fail
            go_roundw
            case rel => exact ⟨i + 1, cu, l, by omega, by go_num, HC.out, hcs, HL.out, HTL.out, hbr⟩
            case measure => simp [intOf]; omega
          · have hyes : 97 ≤ (x.toNat : Int) := by omega
            go_wp2_with fail
            go_roundw
            case rel => exact ⟨i + 1, cu, l, by omega, by go_num, HC.out, hcs, HL.out, HTL.out, hbr⟩
            case measure => simp [intOf]; omega
      · have hconv := run_convert_bytes_back (P := Try.prog) wr 33 9 5 ⟨w1.heap.size, 0, none⟩ cap l Try.underlying33 Try.underlying5 Try.underlying9 (by
          intro j hj
          rw [Addr.add_lit, Nat.zero_add]
          exact hcell j hj)
        rw [HL.out] at hconv
        clear hcell hfr
        go_wp2_with fail
        go_ret
        exact ⟨l, by rw [HL.out]; omega, rfl, hbr⟩
  · have hext := ext_list s
    have hcv := conv_int1 w1
    go_wp2_with fail
    · go_region
      all_goals go_wp2
      all_goals go_ret
      all_goals refine ⟨_, ?_, rfl, (hb1.alloc hb1.size _).drew⟩
      all_goals simp
      all_goals omega
    · go_ret
      exact ⟨s, by omega, rfl, hb1⟩
    · go_ret
      exact ⟨s, by omega, rfl, hb1⟩
  · go_wp2_with fail
    go_ret
    exact ⟨s, by omega, rfl, hb1⟩
  · go_wp2_with fail
    go_ret
    exact ⟨s, by omega, rfl, hb1⟩
end Go.Proofs.Ytcjahjhpbffcfaa
