/-
  raw.bytes: the other kinds.
-/
import Derived.Test.YtcjahjhpbffcfaaBytes
import Derived.Deep.RegionWith
namespace Go.Proofs.Ytcjahjhpbffcfaa
open Go.RowKit
set_option linter.unusedVariables false

set_option maxHeartbeats 1000000 in
theorem bytes_789 (k : Int) (hk : k = 7 ∨ k = 8 ∨ k = 9) (a b c0 : Int) (s t : List UInt8) (w : World) (hs : s.length ≤ 100000) :
    Calls Try.prog 15 #[.agg (C.mk k a b c0 s t).cells.toArray] w (BytesPost w (enc (C.mk k a b c0 s t))) := by
  have hmf : ∀ (fn : Fn) (first cap : Array Value) (w : World), (Instr.makeFunc fn first cap).run Try.prog w = .ok (.func fn first cap) w := fun _ _ _ _ => rfl
  have hL := Laid.start w (C.mk k a b c0 s t) (k % 256) rfl
  have hp : partsOf k = [.t] := by rcases hk with rfl | rfl | rfl <;> decide
  have HE : Hid (enc (C.mk k a b c0 s t) = b1 k :: (encText s)) := by simp [Hid, enc, hp, Part.enc]
  clear hp
  simp only [C.cells] at *
  rcases hk with rfl | rfl | rfl
  all_goals
    simp only [Int.reduceMod] at hL
    go_enter Try.func15, Try.ntmps15
    go_wp2_with fail
    generalize World.alloc (World.alloc (World.alloc w _) _) _ = W at *
    have hlt := hL.lt
    refine (piece_text s _ (by omega) (w.heap.size + 3) hlt).mono ?_
    rintro e w1 ⟨p1, q1, rfl, hp1, hb1⟩
    go_wp2_with fail
    refine (put1 w _ _ _ _ (hL.on hb1) hp1 (by simp only [encText_length]; omega)).mono ?_
    rintro e w9 ⟨rfl, hp9⟩
    obtain ⟨vo, hbx, ho, hr, hb⟩ := hp9
    have hc : w9.cell? ⟨w.heap.size + 1 + 1, 0, none⟩ = some vo := cell_of_one ho
    clear hL hlt hp1 hb1 hbx ho
    go_wp2
    go_ret
    rw [HE.out]
    exact ⟨_, rfl, hr, hb⟩

theorem bytes_none (k : Int) (hk : partsOf k = []) (a b c0 : Int) (s t : List UInt8) (w : World) :
    Calls Try.prog 15 #[.agg (C.mk k a b c0 s t).cells.toArray] w (BytesPost w (enc (C.mk k a b c0 s t))) := by
  have hmf : ∀ (fn : Fn) (first cap : Array Value) (w : World), (Instr.makeFunc fn first cap).run Try.prog w = .ok (.func fn first cap) w := fun _ _ _ _ => rfl
  have hL := Laid.start w (C.mk k a b c0 s t) (k % 256) rfl
  have HE : Hid (enc (C.mk k a b c0 s t) = [b1 k]) := by simp [Hid, enc, hk]
  have hk' : (k == 1) = false ∧ (k == 2) = false ∧ (k == 3) = false ∧ (k == 6) = false ∧ (k == 7) = false ∧ (k == 8) = false ∧ (k == 9) = false ∧ (k == 10) = false ∧ (k == 11) = false ∧ (k == 12) = false := by
    simp only [beq_eq_false_iff_ne]
    refine ⟨?_, ?_, ?_, ?_, ?_, ?_, ?_, ?_, ?_, ?_⟩ <;> (rintro rfl; revert hk; decide)
  obtain ⟨h1, h2, h3, h6, h7, h8, h9, h10, h11, h12⟩ := hk'
  clear hk
  simp only [C.cells] at *
  go_enter Try.func15, Try.ntmps15
  go_wp2
  go_ret
  rw [HE.out]
  refine ⟨_, rfl, ?_, hL.bel⟩
  exact ⟨rfl, .inr ⟨_, _, _, rfl, by omega, hL.row, Nat.le_refl _, by decide, rfl, by simp [bv, b1_val]⟩⟩

theorem piece_one (v : Int) (B : Nat) (W : World) (hB : B ≤ W.heap.size) : PieceN B (W.alloc (.cells #[.int .u8 (v % 256)] 5)) (.slice (some ⟨W.heap.size, 0, none⟩) 1 1) [b1 v] :=
  ⟨by simp, ownsRow_base (ownsRow_full _ _ _ _ _ rfl (by simp [bv, b1_val]) (by decide)) hB⟩

theorem wrap_u8 (v : Int) : IntKind.u8.wrap v = v % 256 := by simp [IntKind.wrap, IntKind.bits, IntKind.signed]
theorem below_alloc (w : World) (o : Obj) : Below w.heap.size w (w.alloc o) := (Below.refl _ _).alloc (Nat.le_refl _) _
theorem piece_oneW (v : Int) (B : Nat) (W : World) (hB : B ≤ W.heap.size) : PieceN B (W.alloc (.cells #[.int .u8 (IntKind.u8.wrap v)] 5)) (.slice (some ⟨W.heap.size, 0, none⟩) 1 1) [b1 v] := by
  rw [wrap_u8]; exact piece_one v B W hB
theorem put3L (w : World) (c : C) (W : World) (v : Int) (v1 v2 : Value) (l1 l2 : List UInt8) (hL : Laid w c W) (h1 : PieceN (w.heap.size + 3) W v1 l1) (h2 : PieceN (w.heap.size + 3) W v2 l2) (hlen : l1.length + l2.length + 1 ≤ 1000000000) :
    Calls Try.prog 22 #[.slice (some ⟨W.heap.size + 1, 0, none⟩) 3 3, .pointer (some ⟨w.heap.size + 1 + 1, 0, none⟩)] ((W.alloc (.cells #[.int .u8 (IntKind.u8.wrap v)] 5)).alloc (.cells #[v1, v2, .slice (some ⟨W.heap.size, 0, none⟩) 1 1] 33)) fun e w' =>
      e = .returned (.tuple #[]) ∧ PutEnd w c (b1 c.k :: (l1 ++ (l2 ++ [b1 v]))) w' := by
  have hb : Below W.heap.size W (W.alloc (.cells #[.int .u8 (v % 256)] 5)) := (Below.refl _ _).alloc (Nat.le_refl _) _
  have := put3 w c (W.alloc (.cells #[.int .u8 (v % 256)] 5)) v1 v2 _ l1 l2 _ (hL.alloc _) (h1.on hb) (h2.on hb) (piece_one v _ W hL.lt) (by simp; omega)
  rw [World.size_alloc] at this
  rw [wrap_u8]
  exact this

set_option maxHeartbeats 1000000 in
theorem bytes_10 (a b c0 : Int) (s t : List UInt8) (w : World) (hs : s.length ≤ 100000) (ht : t.length ≤ 100000) :
    Calls Try.prog 15 #[.agg (C.mk 10 a b c0 s t).cells.toArray] w (BytesPost w (enc (C.mk 10 a b c0 s t))) := by
  have hmf : ∀ (fn : Fn) (first cap : Array Value) (w : World), (Instr.makeFunc fn first cap).run Try.prog w = .ok (.func fn first cap) w := fun _ _ _ _ => rfl
  have hL0 := Laid.start w (C.mk 10 a b c0 s t) 10 (by simp)
  have hp : partsOf 10 = [.a, .b, .l] := by decide
  have HE : Hid (enc (C.mk 10 a b c0 s t) = b1 10 :: (encPair a ++ (encPair b ++ [b1 c0]))) := by simp [Hid, enc, hp, Part.enc]
  clear hp
  simp only [C.cells] at *
  go_enter Try.func15, Try.ntmps15
  go_wp2_with fail
  generalize World.alloc (World.alloc (World.alloc w _) _) _ = W at *
  have hL := hL0.drew
  have hlt := hL.lt
  have hv1 : (C.mk 10 a b c0 s t).cells[1]? = some (.int .i64 a) := rfl
  have hv2 : (C.mk 10 a b c0 s t).cells[2]? = some (.int .i64 b) := rfl
  have hv3 : (C.mk 10 a b c0 s t).cells[3]? = some (.int .i64 c0) := rfl
  have hS : ∀ W', Laid w (C.mk 10 a b c0 s t) W' → W'.cell? ⟨w.heap.size, 1, none⟩ = some (.int .i64 a) ∧ W'.cell? ⟨w.heap.size, 2, none⟩ = some (.int .i64 b) ∧ W'.cell? ⟨w.heap.size, 3, none⟩ = some (.int .i64 c0) :=
    fun W' h => ⟨h.cell 1 _ hv1, h.cell 2 _ hv2, h.cell 3 _ hv3⟩
  have k1 := hL.cell 1 _ rfl
  have k2 := hL.cell 2 _ rfl
  have k3 := hL.cell 3 _ rfl
  go_region_held3 (fun w' => w'.cell? ⟨w.heap.size, 1, none⟩ = some (.int .i64 a) ∧ w'.cell? ⟨w.heap.size, 2, none⟩ = some (.int .i64 b) ∧ w'.cell? ⟨w.heap.size, 3, none⟩ = some (.int .i64 c0))
    (first | go_keep | with_reducible exact hS _ hL | with_reducible exact hS _ ((hL0.alloc _).drew) | with_reducible exact hS _ (hL.on hb1) | with_reducible exact hS _ ((hL.on hb1).alloc _) | with_reducible exact hS _ (((hL0.alloc _).drew).on hb1) | with_reducible exact hS _ ((hL.on hb1).on hb2) | with_reducible exact hS _ (((hL.on hb1).alloc _).on hb2) | with_reducible exact hS _ ((((hL0.alloc _).drew).on hb1).on hb2) | with_reducible exact hS _ (((hL.on hb1).on hb2).alloc _) | with_reducible exact ⟨hp9.cell 1 _ (hv1), hp9.cell 2 _ (hv2), hp9.cell 3 _ (hv3)⟩)
    (first
      | (go_at_call_of 21 a; refine (piece_pair a _ (w.heap.size + 3) ?_).mono ?_; (first | exact hlt | exact ((hL0.alloc _).drew).lt); rintro e w1 ⟨p1, q1, rfl, hp1, hb1⟩)
      | (go_at_call_of 21 b; refine (piece_pair b _ (w.heap.size + 3) ?_).mono ?_; (first | exact (hL.on hb1).lt | exact ((hL.on hb1).alloc _).lt | exact (((hL0.alloc _).drew).on hb1).lt); rintro e w2 ⟨p2, q2, rfl, hp2, hb2⟩)
      | (go_at_call 22; (first | refine (put3L w _ _ c0 _ _ _ _ ((hL.on hb1).on hb2) (hp1.on hb2) hp2 ?_).mono ?_ | refine (put3 w _ _ _ _ _ _ _ _ (((hL.on hb1).alloc _).on hb2) ((hp1.on (below_alloc _ _)).on hb2) hp2 ((piece_oneW c0 _ _ (hL.on hb1).lt).on hb2) ?_).mono ?_ | refine (put3 w _ _ _ _ _ _ _ _ ((((hL0.alloc _).drew).on hb1).on hb2) (hp1.on hb2) hp2 ((((piece_oneW c0 _ _ hL0.lt).drew).on hb1).on hb2) ?_).mono ?_); (simp only [encPair_length, List.length_cons, List.length_nil]; omega); rintro e w9 ⟨rfl, hp9⟩))
  all_goals
    obtain ⟨vo, hbx, ho, hr, hb⟩ := hp9
    have hc : w9.cell? ⟨w.heap.size + 1 + 1, 0, none⟩ = some vo := cell_of_one ho
    clear hL0 hL hlt k1 k2 k3 hp1 hb1 hp2 hb2 hbx ho
    go_wp2
    go_ret
    rw [HE.out]
    exact ⟨_, rfl, hr, hb⟩
end Go.Proofs.Ytcjahjhpbffcfaa
