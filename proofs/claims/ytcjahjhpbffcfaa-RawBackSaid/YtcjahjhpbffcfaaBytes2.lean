/-
  raw.bytes: the kinds whose pieces are all made by calls.
-/
import Derived.Test.YtcjahjhpbffcfaaBytes
import Derived.Deep.RegionWith
namespace Go.Proofs.Ytcjahjhpbffcfaa
open Go.RowKit
set_option linter.unusedVariables false
theorem bytes_2 (a b c0 : Int) (s t : List UInt8) (w : World) (hs : s.length ≤ 100000) (ht : t.length ≤ 100000) :
    Calls Try.prog 15 #[.agg (C.mk 2 a b c0 s t).cells.toArray] w (BytesPost w (enc (C.mk 2 a b c0 s t))) := by
  have hmf : ∀ (fn : Fn) (first cap : Array Value) (w : World), (Instr.makeFunc fn first cap).run Try.prog w = .ok (.func fn first cap) w := fun _ _ _ _ => rfl
  have hL0 := Laid.start w (C.mk 2 a b c0 s t) 2 (by simp)
  have hp : partsOf 2 = [.a, .b] := by decide
  have HE : Hid (enc (C.mk 2 a b c0 s t) = b1 2 :: (encPair a ++ encPair b)) := by simp [Hid, enc, hp, Part.enc]
  clear hp
  simp only [C.cells] at *
  go_enter Try.func15, Try.ntmps15
  go_wp2_with fail
  generalize ((w.alloc (.cells #[.int .i64 2, .int .i64 a, .int .i64 b, .int .i64 c0, .string { data := s.toArray }, .string { data := t.toArray }] 35)).alloc (.cells #[.int .u8 2] 5)).alloc (.cells #[.slice (some ⟨w.heap.size + 1, 0, none⟩) 1 1] 33) = W at *
  have hL := hL0.drew
  clear hL0
  have hlt := hL.lt
  have k1 := hL.cell 1 _ rfl
  have k2 := hL.cell 2 _ rfl
  go_region_held3 (fun w' => w'.cell? ⟨w.heap.size, 1, none⟩ = some (.int .i64 a) ∧ w'.cell? ⟨w.heap.size, 2, none⟩ = some (.int .i64 b))
    (first | go_keep | exact ⟨(hL.on hb1).cell 1 _ rfl, (hL.on hb1).cell 2 _ rfl⟩ | exact ⟨((hL.on hb1).on hb2).cell 1 _ rfl, ((hL.on hb1).on hb2).cell 2 _ rfl⟩ | exact ⟨hp9.cell 1 _ rfl, hp9.cell 2 _ rfl⟩)
    (first
      | (go_at_call_of 21 a; refine (piece_pair a _ (w.heap.size + 3) ?_).mono ?_; exact hlt; rintro e w1 ⟨p1, q1, rfl, hp1, hb1⟩)
      | (go_at_call_of 21 b; refine (piece_pair b _ (w.heap.size + 3) ?_).mono ?_; exact Nat.le_trans hlt hb1.size; rintro e w2 ⟨p2, q2, rfl, hp2, hb2⟩)
      | (go_at_call 22; refine (put2 w _ _ _ _ _ _ ((hL.on hb1).on hb2) (hp1.on hb2) hp2 ?_).mono ?_; (simp only [encPair_length]; omega); rintro e w9 ⟨rfl, hp9⟩))
  obtain ⟨vo, hbx, ho, hr, hb⟩ := hp9
  have hc : w9.cell? ⟨w.heap.size + 1 + 1, 0, none⟩ = some vo := cell_of_one ho
  clear hL hlt k1 hp1 hb1 k2 hp2 hb2 hbx ho
  go_wp2
  go_ret
  rw [HE.out]
  exact ⟨_, rfl, hr, hb⟩

theorem bytes_6 (a b c0 : Int) (s t : List UInt8) (w : World) (hs : s.length ≤ 100000) (ht : t.length ≤ 100000) :
    Calls Try.prog 15 #[.agg (C.mk 6 a b c0 s t).cells.toArray] w (BytesPost w (enc (C.mk 6 a b c0 s t))) := by
  have hmf : ∀ (fn : Fn) (first cap : Array Value) (w : World), (Instr.makeFunc fn first cap).run Try.prog w = .ok (.func fn first cap) w := fun _ _ _ _ => rfl
  have hL0 := Laid.start w (C.mk 6 a b c0 s t) 6 (by simp)
  have hp : partsOf 6 = [.a, .b] := by decide
  have HE : Hid (enc (C.mk 6 a b c0 s t) = b1 6 :: (encPair a ++ encPair b)) := by simp [Hid, enc, hp, Part.enc]
  clear hp
  simp only [C.cells] at *
  go_enter Try.func15, Try.ntmps15
  go_wp2_with fail
  generalize ((w.alloc (.cells #[.int .i64 6, .int .i64 a, .int .i64 b, .int .i64 c0, .string { data := s.toArray }, .string { data := t.toArray }] 35)).alloc (.cells #[.int .u8 6] 5)).alloc (.cells #[.slice (some ⟨w.heap.size + 1, 0, none⟩) 1 1] 33) = W at *
  have hL := hL0.drew
  clear hL0
  have hlt := hL.lt
  have k1 := hL.cell 1 _ rfl
  have k2 := hL.cell 2 _ rfl
  go_region_held3 (fun w' => w'.cell? ⟨w.heap.size, 1, none⟩ = some (.int .i64 a) ∧ w'.cell? ⟨w.heap.size, 2, none⟩ = some (.int .i64 b))
    (first | go_keep | exact ⟨(hL.on hb1).cell 1 _ rfl, (hL.on hb1).cell 2 _ rfl⟩ | exact ⟨((hL.on hb1).on hb2).cell 1 _ rfl, ((hL.on hb1).on hb2).cell 2 _ rfl⟩ | exact ⟨hp9.cell 1 _ rfl, hp9.cell 2 _ rfl⟩)
    (first
      | (go_at_call_of 21 a; refine (piece_pair a _ (w.heap.size + 3) ?_).mono ?_; exact hlt; rintro e w1 ⟨p1, q1, rfl, hp1, hb1⟩)
      | (go_at_call_of 21 b; refine (piece_pair b _ (w.heap.size + 3) ?_).mono ?_; exact Nat.le_trans hlt hb1.size; rintro e w2 ⟨p2, q2, rfl, hp2, hb2⟩)
      | (go_at_call 22; refine (put2 w _ _ _ _ _ _ ((hL.on hb1).on hb2) (hp1.on hb2) hp2 ?_).mono ?_; (simp only [encPair_length]; omega); rintro e w9 ⟨rfl, hp9⟩))
  obtain ⟨vo, hbx, ho, hr, hb⟩ := hp9
  have hc : w9.cell? ⟨w.heap.size + 1 + 1, 0, none⟩ = some vo := cell_of_one ho
  clear hL hlt k1 hp1 hb1 k2 hp2 hb2 hbx ho
  go_wp2
  go_ret
  rw [HE.out]
  exact ⟨_, rfl, hr, hb⟩

theorem bytes_3 (a b c0 : Int) (s t : List UInt8) (w : World) (hs : s.length ≤ 100000) (ht : t.length ≤ 100000) :
    Calls Try.prog 15 #[.agg (C.mk 3 a b c0 s t).cells.toArray] w (BytesPost w (enc (C.mk 3 a b c0 s t))) := by
  have hmf : ∀ (fn : Fn) (first cap : Array Value) (w : World), (Instr.makeFunc fn first cap).run Try.prog w = .ok (.func fn first cap) w := fun _ _ _ _ => rfl
  have hL0 := Laid.start w (C.mk 3 a b c0 s t) 3 (by simp)
  have hp : partsOf 3 = [.a, .b, .t] := by decide
  have HE : Hid (enc (C.mk 3 a b c0 s t) = b1 3 :: (encPair a ++ (encPair b ++ encText s))) := by simp [Hid, enc, hp, Part.enc]
  clear hp
  simp only [C.cells] at *
  go_enter Try.func15, Try.ntmps15
  go_wp2_with fail
  generalize ((w.alloc (.cells #[.int .i64 3, .int .i64 a, .int .i64 b, .int .i64 c0, .string { data := s.toArray }, .string { data := t.toArray }] 35)).alloc (.cells #[.int .u8 3] 5)).alloc (.cells #[.slice (some ⟨w.heap.size + 1, 0, none⟩) 1 1] 33) = W at *
  have hL := hL0.drew
  clear hL0
  have hlt := hL.lt
  have k1 := hL.cell 1 _ rfl
  have k2 := hL.cell 2 _ rfl
  have k3 := hL.cell 4 _ rfl
  go_region_held3 (fun w' => w'.cell? ⟨w.heap.size, 1, none⟩ = some (.int .i64 a) ∧ w'.cell? ⟨w.heap.size, 2, none⟩ = some (.int .i64 b) ∧ w'.cell? ⟨w.heap.size, 4, none⟩ = some (.string ⟨s.toArray⟩))
    (first | go_keep | exact ⟨(hL.on hb1).cell 1 _ rfl, (hL.on hb1).cell 2 _ rfl, (hL.on hb1).cell 4 _ rfl⟩ | exact ⟨((hL.on hb1).on hb2).cell 1 _ rfl, ((hL.on hb1).on hb2).cell 2 _ rfl, ((hL.on hb1).on hb2).cell 4 _ rfl⟩ | exact ⟨(((hL.on hb1).on hb2).on hb3).cell 1 _ rfl, (((hL.on hb1).on hb2).on hb3).cell 2 _ rfl, (((hL.on hb1).on hb2).on hb3).cell 4 _ rfl⟩ | exact ⟨hp9.cell 1 _ rfl, hp9.cell 2 _ rfl, hp9.cell 4 _ rfl⟩)
    (first
      | (go_at_call_of 21 a; refine (piece_pair a _ (w.heap.size + 3) ?_).mono ?_; exact hlt; rintro e w1 ⟨p1, q1, rfl, hp1, hb1⟩)
      | (go_at_call_of 21 b; refine (piece_pair b _ (w.heap.size + 3) ?_).mono ?_; exact Nat.le_trans hlt hb1.size; rintro e w2 ⟨p2, q2, rfl, hp2, hb2⟩)
      | (go_at_call_of 20 s; refine (piece_text s _ (by omega) (w.heap.size + 3) ?_).mono ?_; exact Nat.le_trans hlt (Nat.le_trans hb1.size hb2.size); rintro e w3 ⟨p3, q3, rfl, hp3, hb3⟩)
      | (go_at_call 22; refine (put3 w _ _ _ _ _ _ _ _ (((hL.on hb1).on hb2).on hb3) ((hp1.on hb2).on hb3) (hp2.on hb3) hp3 ?_).mono ?_; (simp only [encPair_length, encText_length]; omega); rintro e w9 ⟨rfl, hp9⟩))
  obtain ⟨vo, hbx, ho, hr, hb⟩ := hp9
  have hc : w9.cell? ⟨w.heap.size + 1 + 1, 0, none⟩ = some vo := cell_of_one ho
  clear hL hlt k1 hp1 hb1 k2 hp2 hb2 k3 hp3 hb3 hbx ho
  go_wp2
  go_ret
  rw [HE.out]
  exact ⟨_, rfl, hr, hb⟩

theorem bytes_12 (a b c0 : Int) (s t : List UInt8) (w : World) (hs : s.length ≤ 100000) (ht : t.length ≤ 100000) :
    Calls Try.prog 15 #[.agg (C.mk 12 a b c0 s t).cells.toArray] w (BytesPost w (enc (C.mk 12 a b c0 s t))) := by
  have hmf : ∀ (fn : Fn) (first cap : Array Value) (w : World), (Instr.makeFunc fn first cap).run Try.prog w = .ok (.func fn first cap) w := fun _ _ _ _ => rfl
  have hL0 := Laid.start w (C.mk 12 a b c0 s t) 12 (by simp)
  have hp : partsOf 12 = [.t, .u] := by decide
  have HE : Hid (enc (C.mk 12 a b c0 s t) = b1 12 :: (encText s ++ encText t)) := by simp [Hid, enc, hp, Part.enc]
  clear hp
  simp only [C.cells] at *
  go_enter Try.func15, Try.ntmps15
  go_wp2_with fail
  generalize ((w.alloc (.cells #[.int .i64 12, .int .i64 a, .int .i64 b, .int .i64 c0, .string { data := s.toArray }, .string { data := t.toArray }] 35)).alloc (.cells #[.int .u8 12] 5)).alloc (.cells #[.slice (some ⟨w.heap.size + 1, 0, none⟩) 1 1] 33) = W at *
  have hL := hL0.drew
  clear hL0
  have hlt := hL.lt
  have k1 := hL.cell 4 _ rfl
  have k2 := hL.cell 5 _ rfl
  go_region_held3 (fun w' => w'.cell? ⟨w.heap.size, 4, none⟩ = some (.string ⟨s.toArray⟩) ∧ w'.cell? ⟨w.heap.size, 5, none⟩ = some (.string ⟨t.toArray⟩))
    (first | go_keep | exact ⟨(hL.on hb1).cell 4 _ rfl, (hL.on hb1).cell 5 _ rfl⟩ | exact ⟨((hL.on hb1).on hb2).cell 4 _ rfl, ((hL.on hb1).on hb2).cell 5 _ rfl⟩ | exact ⟨hp9.cell 4 _ rfl, hp9.cell 5 _ rfl⟩)
    (first
      | (go_at_call_of 20 s; refine (piece_text s _ (by omega) (w.heap.size + 3) ?_).mono ?_; exact hlt; rintro e w1 ⟨p1, q1, rfl, hp1, hb1⟩)
      | (go_at_call_of 20 t; refine (piece_text t _ (by omega) (w.heap.size + 3) ?_).mono ?_; exact Nat.le_trans hlt hb1.size; rintro e w2 ⟨p2, q2, rfl, hp2, hb2⟩)
      | (go_at_call 22; refine (put2 w _ _ _ _ _ _ ((hL.on hb1).on hb2) (hp1.on hb2) hp2 ?_).mono ?_; (simp only [encText_length]; omega); rintro e w9 ⟨rfl, hp9⟩))
  obtain ⟨vo, hbx, ho, hr, hb⟩ := hp9
  have hc : w9.cell? ⟨w.heap.size + 1 + 1, 0, none⟩ = some vo := cell_of_one ho
  clear hL hlt k1 hp1 hb1 k2 hp2 hb2 hbx ho
  go_wp2
  go_ret
  rw [HE.out]
  exact ⟨_, rfl, hr, hb⟩

end Go.Proofs.Ytcjahjhpbffcfaa
