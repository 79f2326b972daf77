/-
  RawKinds: the walk.
-/
import Derived.Test.YtcjahjhpbffcfaaAwake
import Derived.Test.YtcjahjhpbffcfaaPlain
import Derived.BigRegion
import Derived.Deep.DeepCutAuto
set_option linter.unusedVariables false
namespace Go.Proofs.Ytcjahjhpbffcfaa
open Go.RowKit

/-- How many bytes a kind wants. -/
def wantN (k : Int) : Nat :=
  if k = 1 then 3 else if k = 2 ∨ k = 6 then 4 else if k = 3 ∨ k = 10 then 5 else if k = 7 ∨ k = 8 ∨ k = 9 then 1 else if k = 11 then 4 else if k = 12 then 2 else 0

theorem kinds_cell (w : World) (k : Int) (h0 : 0 ≤ k) (h1 : k < 14) :
    (w.alloc (.cells #[.int .i64 0, .int .i64 3, .int .i64 4, .int .i64 5, .int .i64 0, .int .i64 0, .int .i64 4, .int .i64 1, .int .i64 1, .int .i64 1, .int .i64 5, .int .i64 4, .int .i64 2, .int .i64 0] 32)).cell? ⟨w.heap.size, k.toNat, none⟩ = some (.int .i64 (wantN k)) := by
  have e := cell_alloc_new w [.int .i64 0, .int .i64 3, .int .i64 4, .int .i64 5, .int .i64 0, .int .i64 0, .int .i64 4, .int .i64 1, .int .i64 1, .int .i64 1, .int .i64 5, .int .i64 4, .int .i64 2, .int .i64 0] 32 k.toNat (0, 0)
  rw [show (#[.int .i64 0, .int .i64 3, .int .i64 4, .int .i64 5, .int .i64 0, .int .i64 0, .int .i64 4, .int .i64 1, .int .i64 1, .int .i64 1, .int .i64 5, .int .i64 4, .int .i64 2, .int .i64 0] : Array Value) = [.int .i64 0, .int .i64 3, .int .i64 4, .int .i64 5, .int .i64 0, .int .i64 0, .int .i64 4, .int .i64 1, .int .i64 1, .int .i64 1, .int .i64 5, .int .i64 4, .int .i64 2, .int .i64 0].toArray from rfl, e]
  have : k = 0 ∨ k = 1 ∨ k = 2 ∨ k = 3 ∨ k = 4 ∨ k = 5 ∨ k = 6 ∨ k = 7 ∨ k = 8 ∨ k = 9 ∨ k = 10 ∨ k = 11 ∨ k = 12 ∨ k = 13 := by omega
  rcases this with rfl | rfl | rfl | rfl | rfl | rfl | rfl | rfl | rfl | rfl | rfl | rfl | rfl | rfl <;> rfl

theorem conv_at (w : World) (b n : Nat) (l : List UInt8) (cs : Array Value) (fz : Nat × Nat) (hn : n = l.length) (hcs : cs = (bv l).toArray) (h : w.heap[b]? = some (.cells cs 5 fz)) :
    Sem.run Try.prog (convert 33 9 (.slice (some ⟨b, 0, none⟩) n n)) w = .ok (.string ⟨l.toArray⟩) w := by
  subst hn hcs
  refine run_convert_bytes_back w 33 9 5 ⟨b, 0, none⟩ l.length l Try.underlying33 Try.underlying5 Try.underlying9 ?_
  intro j hj
  rw [Addr.add_lit, Nat.zero_add]
  simp [World.cell?, h, bv, hj]
theorem make_bytes (w : World) (n : Nat) (hn : n ≤ 1000000) :
    Sem.run Try.prog (Instr.makeSlice 33 (.int .i64 n) (.int .i64 n)) w = .ok (.slice (some ⟨w.heap.size, 0, none⟩) n n) (w.alloc (.cells (bv (List.replicate n 0)).toArray 5)) := by
  obtain ⟨i0, hi0, hz0, hz1, hz2⟩ := info_parts Try.info5
  have := run_make (P := Try.prog) w 33 5 i0 _ Try.underlying33 hi0 hz0 .i64 .i64 (n : Int) (n : Int) (by omega) (Int.le_refl _) (by rw [hz2]; omega) (by omega)
  rw [this, hz1]
  simp [bv, Value.cells]
  congr 2
  apply Array.ext'
  rw [toList_madeCells_one]
  simp
theorem app_list (l r : List UInt8) : (⟨l.toArray⟩ : ByteArray) ++ ⟨r.toArray⟩ = ⟨(l ++ r).toArray⟩ := by
  apply ByteArray.ext
  simp [ByteArray.data_append]

/-- The region that makes the bytes, whatever its order. -/
structure MadeK (W : World) (A B : Array Value) (l r : List UInt8) (n : Nat) : Prop where
  f1 : Sem.run Try.prog (convert 33 9 (.slice (some ⟨W.heap.size, 0, none⟩) 1 1)) (W.alloc (.cells A 5)).drew = .ok (.string ⟨l.toArray⟩) (W.alloc (.cells A 5)).drew
  f2 : Sem.run Try.prog (convert 33 9 (.slice (some ⟨W.heap.size, 0, none⟩) 1 1)) ((W.alloc (.cells A 5)).alloc (.cells B 5)).drew = .ok (.string ⟨l.toArray⟩) ((W.alloc (.cells A 5)).alloc (.cells B 5)).drew
  f3 : Sem.run Try.prog (convert 33 9 (.slice (some ⟨W.heap.size + 1, 0, none⟩) n n)) ((W.alloc (.cells A 5)).alloc (.cells B 5)).drew = .ok (.string ⟨r.toArray⟩) ((W.alloc (.cells A 5)).alloc (.cells B 5)).drew
  f4 : Sem.run Try.prog (convert 33 9 (.slice (some ⟨W.heap.size, 0, none⟩) n n)) (W.alloc (.cells B 5)).drew = .ok (.string ⟨r.toArray⟩) (W.alloc (.cells B 5)).drew
  f5 : Sem.run Try.prog (convert 33 9 (.slice (some ⟨W.heap.size, 0, none⟩) n n)) ((W.alloc (.cells B 5)).alloc (.cells A 5)).drew = .ok (.string ⟨r.toArray⟩) ((W.alloc (.cells B 5)).alloc (.cells A 5)).drew
  f6 : Sem.run Try.prog (convert 33 9 (.slice (some ⟨W.heap.size + 1, 0, none⟩) 1 1)) ((W.alloc (.cells B 5)).alloc (.cells A 5)).drew = .ok (.string ⟨l.toArray⟩) ((W.alloc (.cells B 5)).alloc (.cells A 5)).drew
theorem madeK (W : World) (A B : Array Value) (l r : List UInt8) (n : Nat) (hl : 1 = l.length) (hr : n = r.length) (hA : A = (bv l).toArray) (hB : B = (bv r).toArray) : MadeK W A B l r n := by
  have n1 : ∀ (w : World) o, ((w.alloc o).drew).heap[w.heap.size]? = some o := fun w o => heap_alloc_new w o
  have n2 : ∀ (w : World) o o', (((w.alloc o).alloc o').drew).heap[w.heap.size]? = some o := fun w o o' => by
    show ((w.alloc o).alloc o').heap[w.heap.size]? = some o
    rw [heap_alloc_old _ _ (by simp), heap_alloc_new]
  have n3 : ∀ (w : World) o o', (((w.alloc o).alloc o').drew).heap[w.heap.size + 1]? = some o' := fun w o o' => by
    show ((w.alloc o).alloc o').heap[w.heap.size + 1]? = some o'
    have := heap_alloc_new (w.alloc o) o'
    simpa using this
  exact ⟨conv_at _ _ _ _ _ _ hl hA (n1 _ _), conv_at _ _ _ _ _ _ hl hA (n2 _ _ _), conv_at _ _ _ _ _ _ hr hB (n3 _ _ _), conv_at _ _ _ _ _ _ hr hB (n1 _ _), conv_at _ _ _ _ _ _ hr hB (n2 _ _ _), conv_at _ _ _ _ _ _ hl hA (n3 _ _ _)⟩

theorem enc_zero (k : Int) : enc ⟨k, 0, 0, 0, [], []⟩ = b1 k :: List.replicate (wantN k) 0 := by
  have h0 : encPair 0 = [0, 0] := by decide
  have h1 : encText [] = [0] := by decide
  have h2 : b1 0 = 0 := by decide
  unfold enc partsOf wantN
  simp only []
  repeat' split
  all_goals first | omega | (simp [Part.enc, h0, h1, h2]; done) | (exfalso; omega)
theorem good_zero (k : Int) (h0 : 0 ≤ k) (h1 : k ≤ 255) : Good ⟨k, 0, 0, 0, [], []⟩ := by
  refine ⟨h0, h1, ⟨by simp, by simp, by simp, by simp, by simp, by simp, by simp, by simp⟩, ?_⟩
  simp only []
  generalize partsOf k = l
  induction l with
  | nil => rfl
  | cons p q ih => cases p <;> exact ih
theorem dec_more (k : Int) (h0 : 0 ≤ k) (h1 : k ≤ 255) : dec (b1 k :: (List.replicate (wantN k) 0 ++ [4])) = [⟨k, 0, 0, 0, [], []⟩, ⟨4, 0, 0, 0, [], []⟩] := by
  have h := dec_read ⟨k, 0, 0, 0, [], []⟩ [4] (good_zero k h0 h1)
  rw [dec_4, enc_zero] at h
  exact h
theorem dec_less (k : Int) (h0 : 0 ≤ k) (h1 : k ≤ 255) (j : Nat) (hj : j ≤ wantN k) : dec (List.drop 0 (List.take (j + 1) (b1 k :: List.replicate (wantN k) 0))) = [⟨k, 0, 0, 0, [], []⟩] := by
  have hc := one_cut ⟨k, 0, 0, 0, [], []⟩ j (good_zero k h0 h1)
  rw [enc_zero] at hc
  rw [List.drop_zero, dec_ne (by simp), hc, dec_nil]
  have hk := hd_b1 k (List.replicate j 0) h0 h1
  have hm : min j (wantN k) = j := by omega
  obtain ⟨m, hm'⟩ := zeros_read (partsOf k) j k
  simp only [List.take_succ_cons, one, hk, List.tail_cons, List.take_replicate, hm, hm']

theorem kinds_lo (kind n : Int) (more : Bool) (w : World) (ha : -9223372036854775808 ≤ kind ∧ kind ≤ 9223372036854775807) (hb : -9223372036854775808 ≤ n ∧ n ≤ 9223372036854775807) (h14 : kind % 256 < 14) :
    Calls Try.prog 4 #[.int .i64 kind, .int .i64 n, .bool more] w fun e w' => e = .returned (.bool true) ∧ Below w.heap.size w w' := by
  obtain ⟨k, hk⟩ : ∃ k, kind % 256 = k := ⟨_, rfl⟩
  rw [hk] at h14
  have hk0 : 0 ≤ k := by omega
  have hcell := kinds_cell w k hk0 h14
  have hwn : wantN k ≤ 5 := by unfold wantN; repeat' split
                               all_goals omega
  obtain ⟨wn, hw⟩ : ∃ wn, wantN k = wn := ⟨_, rfl⟩
  rw [hw] at hcell hwn
  obtain ⟨cc, hcc⟩ : ∃ cc, n % ((wn : Int) + 1) = cc := ⟨_, rfl⟩
  have hc0 : 0 ≤ cc ∧ cc ≤ wn := by
    have := Int.emod_nonneg n (b := (wn : Int) + 1) (by omega)
    have := Int.emod_lt_of_pos n (b := (wn : Int) + 1) (by omega)
    omega
  have HW := Lib.hid hw
  clear hw
  go_enter Try.func4, Try.ntmps4
  go_wp2_with fail
  refine (place_any kind 256 _ (by omega) (by omega) ha.1 ha.2).mono ?_
  rw [hk]
  rintro e w1 ⟨rfl, rfl⟩
  clear hk
  go_wp2_with fail
  refine (place_any n ((wn : Int) + 1) _ (by omega) (by omega) hb.1 hb.2).mono ?_
  rw [hcc]
  rintro e w1 ⟨rfl, rfl⟩
  clear hcc hcell
  have hbW : Below w.heap.size w (w.alloc (.cells #[.int .i64 0, .int .i64 3, .int .i64 4, .int .i64 5, .int .i64 0, .int .i64 0, .int .i64 4, .int .i64 1, .int .i64 1, .int .i64 1, .int .i64 5, .int .i64 4, .int .i64 2, .int .i64 0] 32)) := (Below.refl _ _).alloc (Nat.le_refl _) _
  generalize (w.alloc (.cells #[.int .i64 0, .int .i64 3, .int .i64 4, .int .i64 5, .int .i64 0, .int .i64 0, .int .i64 4, .int .i64 1, .int .i64 1, .int .i64 1, .int .i64 5, .int .i64 4, .int .i64 2, .int .i64 0] 32)) = W at *
  obtain ⟨f1, f2, f3, f4, f5, f6⟩ := madeK W #[.int .u8 k] (bv (List.replicate wn 0)).toArray [b1 k] (List.replicate wn 0) wn rfl (by simp) (by simp [bv, b1_val]; omega) rfl
  have hmk := fun W => make_bytes W wn (by omega)
  have happ := app_list
  generalize (bv (List.replicate wn 0)).toArray = Z at *
  have hzw : wn ≤ (List.replicate wn (0 : UInt8)).length := by simp
  have hzl : (List.replicate wn (0 : UInt8)).length ≤ 5 := by simpa using hwn
  generalize hzz : List.replicate wn (0 : UInt8) = zs at f1 f2 f3 f4 f5 f6 hzl hzw
  have HZ := Lib.hid hzz
  clear hzz
  go_wp2_with fail
  go_region
  all_goals
    clear f1 f2 f3 f4 f5 f6 hmk
    cases more
    · go_wp2_with fail
      rw [ext_list]
      refine (decode_any _ _ (by simp; omega)).mono ?_
      rintro e w2 ⟨v2, rfl, hr2, hb2⟩
      have he : (1 + cc).toNat = cc.toNat + 1 := by omega
      rw [he, ← HZ.out, ← HW.out, dec_less k hk0 (by omega) cc.toNat (by rw [HW.out]; omega)] at hr2
      have hs2 := slc_of_row hr2 rfl
      obtain ⟨a2, cap2, hv2, hc2⟩ := id hs2
      rw [hv2] at hs2 ⊢
      rcases hc2 with hc2 | ⟨g2, o2, rfl, _⟩
      · simp at hc2
      obtain ⟨p0, p1, p2, p3, p4, p5⟩ := hs2.six 0 (by simp) _ rfl
      simp only [Nat.zero_mul, Nat.add_zero] at p0 p1 p2 p3 p4 p5
      have hbz : Below w.heap.size w w2 := ((((hbW.alloc hbW.size _).alloc (by have := hbW.size; simp; omega) _).drew).trans (hb2.mono (by have := hbW.size; simp; omega)))
      clear hr2 hs2 hb2 he
      go_wp2_with fail
      refine (awake_any _).mono ?_
      rintro e w3 ⟨rfl, hb3⟩
      clear p0 p1 p2 p3 p4 p5
      go_wp2
      go_ret
      exact ⟨rfl, hbz.trans (hb3.mono hbz.size)⟩
    · go_wp2_with fail
      refine (decode_any _ _ (by simp; omega)).mono ?_
      rintro e w2 ⟨v2, rfl, hr2, hb2⟩
      rw [← HZ.out, ← HW.out, dec_more k hk0 (by omega)] at hr2
      have hs2 := slc_of_row hr2 rfl
      obtain ⟨a2, cap2, hv2, hc2⟩ := id hs2
      rw [hv2] at hs2 ⊢
      rcases hc2 with hc2 | ⟨g2, o2, rfl, _⟩
      · simp at hc2
      obtain ⟨p0, p1, p2, p3, p4, p5⟩ := hs2.six 0 (by simp) _ rfl
      obtain ⟨q0, q1, q2, q3, q4, q5⟩ := hs2.six 1 (by simp) _ rfl
      simp only [Nat.zero_mul, Nat.add_zero, Nat.one_mul] at p0 p1 p2 p3 p4 p5 q0 q1 q2 q3 q4 q5
      have hbz : Below w.heap.size w w2 := ((((hbW.alloc hbW.size _).alloc (by have := hbW.size; simp; omega) _).drew).trans (hb2.mono (by have := hbW.size; simp; omega)))
      clear hr2 hs2 hb2 p2 p3 p5 q1 q2 q3 q4 q5
      go_wp2_with fail
      refine (awake_any _).mono ?_
      rintro e w3 ⟨rfl, hb3⟩
      clear p0 p1 p4 q0
      go_wp2
      go_ret
      exact ⟨rfl, hbz.trans (hb3.mono hbz.size)⟩
theorem kinds_hi (kind n : Int) (more : Bool) (w : World) (ha : -9223372036854775808 ≤ kind ∧ kind ≤ 9223372036854775807) (hb : -9223372036854775808 ≤ n ∧ n ≤ 9223372036854775807) (h14 : ¬ kind % 256 < 14) :
    Calls Try.prog 4 #[.int .i64 kind, .int .i64 n, .bool more] w fun e w' => e = .returned (.bool true) ∧ Below w.heap.size w w' := by
  obtain ⟨k, hk⟩ : ∃ k, kind % 256 = k := ⟨_, rfl⟩
  rw [hk] at h14
  have hk1 : k ≤ 255 := by omega
  have hk0 : 0 ≤ k := by omega
  have hw : wantN k = 0 := by unfold wantN; repeat' split
                              all_goals omega
  have hcc : n % 1 = 0 := by omega
  have HW := Lib.hid hw
  clear hw
  go_enter Try.func4, Try.ntmps4
  go_wp2_with fail
  refine (place_any kind 256 _ (by omega) (by omega) ha.1 ha.2).mono ?_
  rw [hk]
  rintro e w1 ⟨rfl, rfl⟩
  clear hk
  go_wp2_with fail
  refine (place_any n 1 _ (by omega) (by omega) hb.1 hb.2).mono ?_
  rw [hcc]
  rintro e w1 ⟨rfl, rfl⟩
  clear hcc
  have hbW : Below w.heap.size w (w.alloc (.cells #[.int .i64 0, .int .i64 3, .int .i64 4, .int .i64 5, .int .i64 0, .int .i64 0, .int .i64 4, .int .i64 1, .int .i64 1, .int .i64 1, .int .i64 5, .int .i64 4, .int .i64 2, .int .i64 0] 32)) := (Below.refl _ _).alloc (Nat.le_refl _) _
  generalize (w.alloc (.cells #[.int .i64 0, .int .i64 3, .int .i64 4, .int .i64 5, .int .i64 0, .int .i64 0, .int .i64 4, .int .i64 1, .int .i64 1, .int .i64 1, .int .i64 5, .int .i64 4, .int .i64 2, .int .i64 0] 32)) = W at *
  obtain ⟨f1, f2, f3, f4, f5, f6⟩ := madeK W #[.int .u8 k] #[] [b1 k] [] 0 rfl rfl (by simp [bv, b1_val]; omega) rfl
  have hmk : ∀ W : World, Sem.run Try.prog (Instr.makeSlice 33 (.int .i64 0) (.int .i64 0)) W = .ok (.slice (some ⟨W.heap.size, 0, none⟩) 0 0) (W.alloc (.cells #[] 5)) := fun W => make_bytes W 0 (by omega)
  have happ := app_list
  go_wp2_with fail
  go_region
  all_goals
    clear f1 f2 f3 f4 f5 f6 hmk
    cases more
    · go_wp2_with fail
      rw [ext_list]
      refine (decode_any _ _ (by simp)).mono ?_
      rintro e w2 ⟨v2, rfl, hr2, hb2⟩
      have hd := dec_less k hk0 hk1 0 (Nat.zero_le _)
      rw [HW.out] at hd
      simp only [List.replicate_zero, Nat.zero_add] at hd
      rw [hd] at hr2
      have hs2 := slc_of_row hr2 rfl
      obtain ⟨a2, cap2, hv2, hc2⟩ := id hs2
      rw [hv2] at hs2 ⊢
      rcases hc2 with hc2 | ⟨g2, o2, rfl, _⟩
      · simp at hc2
      obtain ⟨p0, p1, p2, p3, p4, p5⟩ := hs2.six 0 (by simp) _ rfl
      simp only [Nat.zero_mul, Nat.add_zero] at p0 p1 p2 p3 p4 p5
      have hbz : Below w.heap.size w w2 := ((((hbW.alloc hbW.size _).alloc (by have := hbW.size; simp; omega) _).drew).trans (hb2.mono (by have := hbW.size; simp; omega)))
      clear hr2 hs2 hb2
      go_wp2_with fail
      refine (awake_any _).mono ?_
      rintro e w3 ⟨rfl, hb3⟩
      clear p0 p1 p2 p3 p4 p5
      go_wp2
      go_ret
      exact ⟨rfl, hbz.trans (hb3.mono hbz.size)⟩
    · go_wp2_with fail
      refine (decode_any _ _ (by simp)).mono ?_
      rintro e w2 ⟨v2, rfl, hr2, hb2⟩
      have hd := dec_more k hk0 hk1
      rw [HW.out] at hd
      simp only [List.replicate_zero, List.nil_append] at hd
      rw [hd] at hr2
      have hs2 := slc_of_row hr2 rfl
      obtain ⟨a2, cap2, hv2, hc2⟩ := id hs2
      rw [hv2] at hs2 ⊢
      rcases hc2 with hc2 | ⟨g2, o2, rfl, _⟩
      · simp at hc2
      obtain ⟨p0, p1, p2, p3, p4, p5⟩ := hs2.six 0 (by simp) _ rfl
      obtain ⟨q0, q1, q2, q3, q4, q5⟩ := hs2.six 1 (by simp) _ rfl
      simp only [Nat.zero_mul, Nat.add_zero, Nat.one_mul] at p0 p1 p2 p3 p4 p5 q0 q1 q2 q3 q4 q5
      have hbz : Below w.heap.size w w2 := ((((hbW.alloc hbW.size _).alloc (by have := hbW.size; simp; omega) _).drew).trans (hb2.mono (by have := hbW.size; simp; omega)))
      clear hr2 hs2 hb2 p2 p3 p5 q1 q2 q3 q4 q5
      go_wp2_with fail
      refine (awake_any _).mono ?_
      rintro e w3 ⟨rfl, hb3⟩
      clear p0 p1 p4 q0
      go_wp2
      go_ret
      exact ⟨rfl, hbz.trans (hb3.mono hbz.size)⟩
theorem kinds_any (kind n : Int) (more : Bool) (w : World) (ha : -9223372036854775808 ≤ kind ∧ kind ≤ 9223372036854775807) (hb : -9223372036854775808 ≤ n ∧ n ≤ 9223372036854775807) :
    Calls Try.prog 4 #[.int .i64 kind, .int .i64 n, .bool more] w fun e w' => e = .returned (.bool true) ∧ Below w.heap.size w w' := by
  by_cases h : kind % 256 < 14
  · exact kinds_lo kind n more w ha hb h
  · exact kinds_hi kind n more w ha hb h
end Go.Proofs.Ytcjahjhpbffcfaa
