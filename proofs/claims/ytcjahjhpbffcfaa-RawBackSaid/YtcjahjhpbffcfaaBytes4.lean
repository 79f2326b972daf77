/-
  raw.bytes: the kind Suggest; and all kinds together.
-/
import Derived.Test.YtcjahjhpbffcfaaBytes2
import Derived.Test.YtcjahjhpbffcfaaBytes3
namespace Go.Proofs.Ytcjahjhpbffcfaa
open Go.RowKit
set_option linter.unusedVariables false
theorem put3F (w : World) (c : C) (W : World) (v : Int) (v1 v2 : Value) (l1 l2 : List UInt8) (hL : Laid w c W) (h1 : PieceN (w.heap.size + 3) W v1 l1) (h2 : PieceN (w.heap.size + 3) W v2 l2) (hlen : l1.length + l2.length + 1 ≤ 1000000000) :
    Calls Try.prog 22 #[.slice (some ⟨W.heap.size + 1, 0, none⟩) 3 3, .pointer (some ⟨w.heap.size + 1 + 1, 0, none⟩)] ((W.alloc (.cells #[.int .u8 (IntKind.u8.wrap v)] 5)).alloc (.cells #[.slice (some ⟨W.heap.size, 0, none⟩) 1 1, v1, v2] 33)) fun e w' =>
      e = .returned (.tuple #[]) ∧ PutEnd w c (b1 c.k :: ([b1 v] ++ (l1 ++ l2))) w' := by
  have hb : Below W.heap.size W (W.alloc (.cells #[.int .u8 (v % 256)] 5)) := (Below.refl _ _).alloc (Nat.le_refl _) _
  have := put3 w c (W.alloc (.cells #[.int .u8 (v % 256)] 5)) _ v1 v2 _ l1 l2 (hL.alloc _) (piece_one v _ W hL.lt) (h1.on hb) (h2.on hb) (by simp; omega)
  rw [World.size_alloc] at this
  rw [wrap_u8]
  exact this

set_option maxHeartbeats 1000000 in
theorem bytes_11 (a b c0 : Int) (s t : List UInt8) (w : World) (hs : s.length ≤ 100000) (ht : t.length ≤ 100000) :
    Calls Try.prog 15 #[.agg (C.mk 11 a b c0 s t).cells.toArray] w (BytesPost w (enc (C.mk 11 a b c0 s t))) := by
  have hmf : ∀ (fn : Fn) (first cap : Array Value) (w : World), (Instr.makeFunc fn first cap).run Try.prog w = .ok (.func fn first cap) w := fun _ _ _ _ => rfl
  have hL0 := Laid.start w (C.mk 11 a b c0 s t) 11 (by simp)
  have hp : partsOf 11 = [.l, .b, .t] := by decide
  have HE : Hid (enc (C.mk 11 a b c0 s t) = b1 11 :: ([b1 c0] ++ (encPair b ++ encText s))) := by simp [Hid, enc, hp, Part.enc]
  clear hp
  simp only [C.cells] at *
  go_enter Try.func15, Try.ntmps15
  go_wp2_with fail
  generalize World.alloc (World.alloc (World.alloc w _) _) _ = W at *
  have hL := hL0.drew
  have hlt := hL.lt
  have hv1 : (C.mk 11 a b c0 s t).cells[4]? = some (.string ⟨s.toArray⟩) := rfl
  have hv2 : (C.mk 11 a b c0 s t).cells[2]? = some (.int .i64 b) := rfl
  have hv3 : (C.mk 11 a b c0 s t).cells[3]? = some (.int .i64 c0) := rfl
  have hS : ∀ W', Laid w (C.mk 11 a b c0 s t) W' → W'.cell? ⟨w.heap.size, 4, none⟩ = some (.string ⟨s.toArray⟩) ∧ W'.cell? ⟨w.heap.size, 2, none⟩ = some (.int .i64 b) ∧ W'.cell? ⟨w.heap.size, 3, none⟩ = some (.int .i64 c0) :=
    fun W' h => ⟨h.cell 4 _ hv1, h.cell 2 _ hv2, h.cell 3 _ hv3⟩
  have k1 := hL.cell 4 _ rfl
  have k2 := hL.cell 2 _ rfl
  have k3 := hL.cell 3 _ rfl
  go_region_held3 (fun w' => w'.cell? ⟨w.heap.size, 4, none⟩ = some (.string ⟨s.toArray⟩) ∧ w'.cell? ⟨w.heap.size, 2, none⟩ = some (.int .i64 b) ∧ w'.cell? ⟨w.heap.size, 3, none⟩ = some (.int .i64 c0))
    (first | go_keep | with_reducible exact hS _ hL | with_reducible exact hS _ ((hL0.alloc _).drew) | with_reducible exact hS _ (hL.on hb1) | with_reducible exact hS _ ((hL.on hb1).alloc _) | with_reducible exact hS _ (((hL0.alloc _).drew).on hb1) | with_reducible exact hS _ ((hL.on hb1).on hb2) | with_reducible exact hS _ (((hL.on hb1).alloc _).on hb2) | with_reducible exact hS _ ((((hL0.alloc _).drew).on hb1).on hb2) | with_reducible exact hS _ (((hL.on hb1).on hb2).alloc _) | with_reducible exact ⟨hp9.cell 4 _ (hv1), hp9.cell 2 _ (hv2), hp9.cell 3 _ (hv3)⟩)
    (first
      | (go_at_call_of 21 b; refine (piece_pair b _ (w.heap.size + 3) ?_).mono ?_; (first | exact hlt | exact ((hL0.alloc _).drew).lt); rintro e w1 ⟨p1, q1, rfl, hp1, hb1⟩)
      | (go_at_call_of 20 s; refine (piece_text s _ (by omega) (w.heap.size + 3) ?_).mono ?_; (first | exact (hL.on hb1).lt | exact ((hL.on hb1).alloc _).lt | exact (((hL0.alloc _).drew).on hb1).lt); rintro e w2 ⟨p2, q2, rfl, hp2, hb2⟩)
      | (go_at_call 22; (first | refine (put3F w _ _ c0 _ _ _ _ ((hL.on hb1).on hb2) (hp1.on hb2) hp2 ?_).mono ?_ | refine (put3 w _ _ _ _ _ _ _ _ (((hL.on hb1).alloc _).on hb2) ((piece_oneW c0 _ _ (hL.on hb1).lt).on hb2) ((hp1.on (below_alloc _ _)).on hb2) hp2 ?_).mono ?_ | refine (put3 w _ _ _ _ _ _ _ _ ((((hL0.alloc _).drew).on hb1).on hb2) ((((piece_oneW c0 _ _ hL0.lt).drew).on hb1).on hb2) (hp1.on hb2) hp2 ?_).mono ?_); (simp only [encPair_length, encText_length, List.length_cons, List.length_nil]; omega); rintro e w9 ⟨rfl, hp9⟩))
  all_goals
    obtain ⟨vo, hbx, ho, hr, hb⟩ := hp9
    have hc : w9.cell? ⟨w.heap.size + 1 + 1, 0, none⟩ = some vo := cell_of_one ho
    clear hL0 hL hlt k1 k2 k3 hp1 hb1 hp2 hb2 hbx ho
    go_wp2
    go_ret
    rw [HE.out]
    exact ⟨_, rfl, hr, hb⟩

theorem bytes_any (c : C) (w : World) (hs : c.s.length ≤ 100000) (ht : c.t.length ≤ 100000) :
    Calls Try.prog 15 #[.agg c.cells.toArray] w (BytesPost w (enc c)) := by
  obtain ⟨k, a, b, c0, s, t⟩ := c
  simp only [] at hs ht
  by_cases h1 : k = 1
  · subst h1; exact bytes_insert a b c0 s t w hs
  by_cases h2 : k = 2
  · subst h2; exact bytes_2 a b c0 s t w hs ht
  by_cases h3 : k = 3
  · subst h3; exact bytes_3 a b c0 s t w hs ht
  by_cases h6 : k = 6
  · subst h6; exact bytes_6 a b c0 s t w hs ht
  by_cases h7 : k = 7 ∨ k = 8 ∨ k = 9
  · exact bytes_789 k h7 a b c0 s t w hs
  by_cases h10 : k = 10
  · subst h10; exact bytes_10 a b c0 s t w hs ht
  by_cases h11 : k = 11
  · subst h11; exact bytes_11 a b c0 s t w hs ht
  by_cases h12 : k = 12
  · subst h12; exact bytes_12 a b c0 s t w hs ht
  exact bytes_none k (by simp only [partsOf, h1, h2, h3, h6, h7, h10, h11, h12, or_self, if_false]) a b c0 s t w
end Go.Proofs.Ytcjahjhpbffcfaa
