/-
  The reader of package raw: next, pair, text, a, b, l, t, u: what each does to the reader's block.
-/
import Derived.Test.YtcjahjhpbffcfaaRows
import Derived.Test.YtcjahjhpbffcfaaMath
import Derived.WalkKit
import Derived.WalkLawsBesides
import Derived.WalkSpells
import Derived.Lib.Hide
namespace Go.Proofs.Ytcjahjhpbffcfaa
open Go.RowKit

/-- The cells of a command. -/
def C.cells (c : C) : List Value := [.int .i64 c.k, .int .i64 c.a, .int .i64 c.b, .int .i64 c.c, .string ⟨c.s.toArray⟩, .string ⟨c.t.toArray⟩]

/-- The reader's block. -/
def Rd (w : World) (b : Nat) (s : List UInt8) (c : C) : Prop :=
  w.heap[b]? = some (.cells #[.string ⟨s.toArray⟩, .int .i64 c.k, .int .i64 c.a, .int .i64 c.b, .int .i64 c.c, .string ⟨c.s.toArray⟩, .string ⟨c.t.toArray⟩] 45 (0, 0))

theorem heap_setCell_same {w : World} {b off : Nat} {v : Value} {cs : Array Value} {T : TypeId} {fz : Nat × Nat} (h : w.heap[b]? = some (.cells cs T fz)) :
    (w.setCell ⟨b, off, none⟩ v).heap[b]? = some (.cells (cs.setIfInBounds off v) T fz) := by
  obtain ⟨hlt, hv⟩ := Array.getElem?_eq_some_iff.1 h
  simp [World.setCell, Array.getElem?_modify, h]

theorem grownBy_setCell (w : World) (b off : Nat) (v : Value) : w.grownBy (w.setCell ⟨b, off, none⟩ v) (some b) := by
  refine ⟨rfl, rfl, rfl, by simp [World.setCell], fun k hk hne => ?_⟩
  have : k ≠ b := fun e => hne (by rw [e])
  simp [World.setCell, Array.getElem?_modify]
  intro e; exact absurd e.symm this

theorem grownBy_trans {w w1 w2 : World} {r : Option Nat} (h1 : w.grownBy w1 r) (h2 : w1.grownBy w2 r) : w.grownBy w2 r :=
  ⟨h2.os.trans h1.os, h2.tape.trans h1.tape, h2.output.trans h1.output, Nat.le_trans h1.size h2.size, fun k hk hn => (h2.block k (Nat.lt_of_lt_of_le hk h1.size) hn).trans (h1.block k hk hn)⟩

theorem Rd.cell {w : World} {b : Nat} {s : List UInt8} {c : C} (h : Rd w b s c) : w.cell? ⟨b, 0, none⟩ = some (.string ⟨s.toArray⟩) := by
  unfold Rd at h; simp [World.cell?, h]
theorem Rd.cellk {w : World} {b : Nat} {s : List UInt8} {c : C} (h : Rd w b s c) : w.cell? ⟨b, 1, none⟩ = some (.int .i64 c.k) := by
  unfold Rd at h; simp [World.cell?, h]
theorem Rd.cella {w : World} {b : Nat} {s : List UInt8} {c : C} (h : Rd w b s c) : w.cell? ⟨b, 2, none⟩ = some (.int .i64 c.a) := by
  unfold Rd at h; simp [World.cell?, h]
theorem Rd.cellb {w : World} {b : Nat} {s : List UInt8} {c : C} (h : Rd w b s c) : w.cell? ⟨b, 3, none⟩ = some (.int .i64 c.b) := by
  unfold Rd at h; simp [World.cell?, h]
theorem Rd.cellc {w : World} {b : Nat} {s : List UInt8} {c : C} (h : Rd w b s c) : w.cell? ⟨b, 4, none⟩ = some (.int .i64 c.c) := by
  unfold Rd at h; simp [World.cell?, h]
theorem Rd.cells {w : World} {b : Nat} {s : List UInt8} {c : C} (h : Rd w b s c) : w.cell? ⟨b, 5, none⟩ = some (.string ⟨c.s.toArray⟩) := by
  unfold Rd at h; simp [World.cell?, h]
theorem Rd.cellt {w : World} {b : Nat} {s : List UInt8} {c : C} (h : Rd w b s c) : w.cell? ⟨b, 6, none⟩ = some (.string ⟨c.t.toArray⟩) := by
  unfold Rd at h; simp [World.cell?, h]
theorem Rd.free {w : World} {b : Nat} {s : List UInt8} {c : C} (h : Rd w b s c) (i : Nat) : w.frozen? ⟨b, i, none⟩ = false := by
  unfold Rd at h; simp [World.frozen?, h]
theorem Rd.setS {w : World} {b : Nat} {s s' : List UInt8} {c : C} (h : Rd w b s c) : Rd (w.setCell ⟨b, 0, none⟩ (.string ⟨s'.toArray⟩)) b s' c := by
  unfold Rd at *; rw [heap_setCell_same h]; rfl
theorem Rd.setA {w : World} {b : Nat} {s : List UInt8} {c : C} (h : Rd w b s c) (v : Int) : Rd (w.setCell ⟨b, 2, none⟩ (.int .i64 v)) b s { c with a := v } := by
  unfold Rd at *; rw [heap_setCell_same h]; rfl
theorem Rd.setB {w : World} {b : Nat} {s : List UInt8} {c : C} (h : Rd w b s c) (v : Int) : Rd (w.setCell ⟨b, 3, none⟩ (.int .i64 v)) b s { c with b := v } := by
  unfold Rd at *; rw [heap_setCell_same h]; rfl
theorem Rd.setC {w : World} {b : Nat} {s : List UInt8} {c : C} (h : Rd w b s c) (v : Int) : Rd (w.setCell ⟨b, 4, none⟩ (.int .i64 v)) b s { c with c := v } := by
  unfold Rd at *; rw [heap_setCell_same h]; rfl
theorem Rd.setT {w : World} {b : Nat} {s : List UInt8} {c : C} (h : Rd w b s c) (v : List UInt8) : Rd (w.setCell ⟨b, 5, none⟩ (.string ⟨v.toArray⟩)) b s { c with s := v } := by
  unfold Rd at *; rw [heap_setCell_same h]; rfl
theorem Rd.setU {w : World} {b : Nat} {s : List UInt8} {c : C} (h : Rd w b s c) (v : List UInt8) : Rd (w.setCell ⟨b, 6, none⟩ (.string ⟨v.toArray⟩)) b s { c with t := v } := by
  unfold Rd at *; rw [heap_setCell_same h]; rfl

theorem ext_list (l : List UInt8) (i j : Nat) : (⟨l.toArray⟩ : ByteArray).extract i j = ⟨((l.take j).drop i).toArray⟩ := by
  apply ByteArray.ext
  simp [ByteArray.data_extract, List.extract_toArray]
  rw [List.drop_take]
theorem wrap64_byte' (b : UInt8) : wrap64 (b.toNat : Int) = b.toNat := by
  have := b.toNat_lt
  unfold wrap64
  omega
theorem ret_int {k : IntKind} {a b : Int} (h : a = b) : Ending.returned (.int k a) = .returned (.int k b) := by rw [h]
theorem ret_str {a b : ByteArray} (h : a = b) : Ending.returned (.string a) = .returned (.string b) := by rw [h]

theorem next_any (b : Nat) (s : List UInt8) (c : C) (w : World) (h : Rd w b s c) (hm : s.length ≤ 1099511627776) :
    Calls Try.prog 17 #[.pointer (some ⟨b, 0, none⟩)] w fun e w' => e = .returned (.int .i64 (hd s)) ∧ Rd w' b s.tail c ∧ w.grownBy w' (some b) := by
  have hc := h.cell
  have hf := h.free 0
  cases s with
  | nil =>
    go_enter Try.func17, Try.ntmps17
    go_wp2
    go_ret
    exact ⟨rfl, h, World.grownBy.refl _ _⟩
  | cons x r =>
    have hl : r.length ≤ 1099511627776 := by simp at hm; omega
    go_enter Try.func17, Try.ntmps17
    go_wp2
    go_ret
    rw [ext_list]
    exact ⟨ret_int (wrap64_byte' x), by simpa using h.setS (s' := r), grownBy_setCell _ _ _ _⟩

theorem pair_any (b : Nat) (s : List UInt8) (c : C) (w : World) (h : Rd w b s c) (hm : s.length ≤ 1099511627776) :
    Calls Try.prog 28 #[.pointer (some ⟨b, 0, none⟩)] w fun e w' => e = .returned (.int .i64 (pairV s)) ∧ Rd w' b (pairR s) c ∧ w.grownBy w' (some b) := by
  have b1 := hd_bounds s
  have b2 := hd_bounds s.tail
  go_enter Try.func28, Try.ntmps28
  go_wp2_with fail
  refine (next_any b s c _ h hm).mono ?_
  rintro e w1 ⟨rfl, h1, g1⟩
  go_wp2_with fail
  refine (next_any b s.tail c _ h1 (by simp; omega)).mono ?_
  rintro e w2 ⟨rfl, h2, g2⟩
  go_wp2_with fail
  go_ret
  exact ⟨rfl, h2, grownBy_trans g1 g2⟩

theorem empty_list : ByteArray.empty = ⟨([] : List UInt8).toArray⟩ := rfl
theorem text_any (b : Nat) (s : List UInt8) (c : C) (w : World) (h : Rd w b s c) (hm : s.length ≤ 1099511627776) :
    Calls Try.prog 29 #[.pointer (some ⟨b, 0, none⟩)] w fun e w' => e = .returned (.string ⟨(textV s).toArray⟩) ∧ Rd w' b (textR s) c ∧ w.grownBy w' (some b) := by
  have b1 := hd_bounds s
  have ht : textN s ≤ s.length - 1 := by unfold textN; simp; omega
  go_enter Try.func29, Try.ntmps29
  go_wp2_with fail
  refine (next_any b s c _ h hm).mono ?_
  rintro e w1 ⟨rfl, h1, g1⟩
  have hc := h1.cell
  have hf := h1.free 0
  go_wp2
  · rename_i hlt
    go_ret
    have hn : textN s = s.length - 1 := by unfold textN; simp; omega
    refine ⟨ret_str ?_, ?_, grownBy_trans g1 (grownBy_setCell _ _ _ _)⟩
    · rw [ext_list]; unfold textV; rw [hn]; simp
    · rw [empty_list]
      have e : textR s = [] := by unfold textR; rw [hn]; simp; omega
      rw [e]
      exact h1.setS
  · rename_i hle
    go_ret
    have hn : textN s = (hd s).toNat := by unfold textN; simp; omega
    refine ⟨ret_str ?_, ?_, grownBy_trans g1 (grownBy_setCell _ _ _ _)⟩
    · rw [ext_list]; unfold textV; rw [hn]; simp
    · rw [ext_list]
      have e : textR s = List.drop (hd s).toNat (List.take (s.length - 1) s.tail) := by unfold textR; rw [hn, List.take_of_length_le (by simp)]
      rw [e]
      exact h1.setS

theorem a_any (b : Nat) (s : List UInt8) (c : C) (w : World) (h : Rd w b s c) (hm : s.length ≤ 1099511627776) :
    Calls Try.prog 23 #[.pointer (some ⟨b, 0, none⟩)] w fun e w' => e = .returned (.tuple #[]) ∧ Rd w' b (Part.a.run s c).1 (Part.a.run s c).2 ∧ w.grownBy w' (some b) := by
  go_enter Try.func23, Try.ntmps23
  go_wp2_with fail
  refine (pair_any b s c _ h hm).mono ?_
  rintro e w1 ⟨rfl, h1, g1⟩
  have hc := h1.cella
  have hf := h1.free 2
  go_wp2
  go_end0
  exact ⟨rfl, h1.setA _, grownBy_trans g1 (grownBy_setCell _ _ _ _)⟩
theorem b_any (b : Nat) (s : List UInt8) (c : C) (w : World) (h : Rd w b s c) (hm : s.length ≤ 1099511627776) :
    Calls Try.prog 25 #[.pointer (some ⟨b, 0, none⟩)] w fun e w' => e = .returned (.tuple #[]) ∧ Rd w' b (Part.b.run s c).1 (Part.b.run s c).2 ∧ w.grownBy w' (some b) := by
  go_enter Try.func25, Try.ntmps25
  go_wp2_with fail
  refine (pair_any b s c _ h hm).mono ?_
  rintro e w1 ⟨rfl, h1, g1⟩
  have hc := h1.cellb
  have hf := h1.free 3
  go_wp2
  go_end0
  exact ⟨rfl, h1.setB _, grownBy_trans g1 (grownBy_setCell _ _ _ _)⟩
theorem l_any (b : Nat) (s : List UInt8) (c : C) (w : World) (h : Rd w b s c) (hm : s.length ≤ 1099511627776) :
    Calls Try.prog 26 #[.pointer (some ⟨b, 0, none⟩)] w fun e w' => e = .returned (.tuple #[]) ∧ Rd w' b (Part.l.run s c).1 (Part.l.run s c).2 ∧ w.grownBy w' (some b) := by
  go_enter Try.func26, Try.ntmps26
  go_wp2_with fail
  refine (next_any b s c _ h hm).mono ?_
  rintro e w1 ⟨rfl, h1, g1⟩
  have hc := h1.cellc
  have hf := h1.free 4
  go_wp2
  go_end0
  exact ⟨rfl, h1.setC _, grownBy_trans g1 (grownBy_setCell _ _ _ _)⟩
theorem t_any (b : Nat) (s : List UInt8) (c : C) (w : World) (h : Rd w b s c) (hm : s.length ≤ 1099511627776) :
    Calls Try.prog 24 #[.pointer (some ⟨b, 0, none⟩)] w fun e w' => e = .returned (.tuple #[]) ∧ Rd w' b (Part.t.run s c).1 (Part.t.run s c).2 ∧ w.grownBy w' (some b) := by
  go_enter Try.func24, Try.ntmps24
  go_wp2_with fail
  refine (text_any b s c _ h hm).mono ?_
  rintro e w1 ⟨rfl, h1, g1⟩
  have hc := h1.cells
  have hf := h1.free 5
  go_wp2
  go_end0
  exact ⟨rfl, h1.setT _, grownBy_trans g1 (grownBy_setCell _ _ _ _)⟩
theorem u_any (b : Nat) (s : List UInt8) (c : C) (w : World) (h : Rd w b s c) (hm : s.length ≤ 1099511627776) :
    Calls Try.prog 27 #[.pointer (some ⟨b, 0, none⟩)] w fun e w' => e = .returned (.tuple #[]) ∧ Rd w' b (Part.u.run s c).1 (Part.u.run s c).2 ∧ w.grownBy w' (some b) := by
  go_enter Try.func27, Try.ntmps27
  go_wp2_with fail
  refine (text_any b s c _ h hm).mono ?_
  rintro e w1 ⟨rfl, h1, g1⟩
  have hc := h1.cellt
  have hf := h1.free 6
  go_wp2
  go_end0
  exact ⟨rfl, h1.setU _, grownBy_trans g1 (grownBy_setCell _ _ _ _)⟩

/-- The function's number of a part. -/
def Part.fn : Part → Nat
  | .a => 23 | .b => 25 | .l => 26 | .t => 24 | .u => 27
theorem part_any (p : Part) (b : Nat) (s : List UInt8) (c : C) (w : World) (h : Rd w b s c) (hm : s.length ≤ 1099511627776) :
    Calls Try.prog p.fn #[.pointer (some ⟨b, 0, none⟩)] w fun e w' => e = .returned (.tuple #[]) ∧ Rd w' b (p.run s c).1 (p.run s c).2 ∧ w.grownBy w' (some b) := by
  cases p
  · exact a_any b s c w h hm
  · exact b_any b s c w h hm
  · exact l_any b s c w h hm
  · exact t_any b s c w h hm
  · exact u_any b s c w h hm

/-- The value of a part: a method value. -/
def Part.val (b : Nat) (p : Part) : Value := .func (.func p.fn) #[.pointer (some ⟨b, 0, none⟩)] #[]

theorem ownsRow_full (w : World) (e : TypeId) (cur : Array Value) (n : Nat) (xs : List Value) (hn : cur.size = n) (hx : cur.toList = xs) (hm : n ≤ maxLen) :
    (w.alloc (.cells cur e)).ownsRow w.heap.size e 1 (.slice (some ⟨w.heap.size, 0, none⟩) n n) n xs := by
  subst hx
  refine ⟨by simp [hn], .inr ⟨w.heap.size, n, cur, rfl, Nat.le_refl _, heap_alloc_new w _, Nat.le_refl _, hm, by omega, ?_⟩⟩
  rw [List.take_of_length_le (by simp [hn])]

theorem parts_any (b : Nat) (s : List UInt8) (c : C) (w : World) (h : Rd w b s c) :
    Calls Try.prog 18 #[.pointer (some ⟨b, 0, none⟩)] w fun e w' => ∃ v, e = .returned v ∧ w'.ownsRow w.heap.size 1 1 v (partsOf c.k).length ((partsOf c.k).map (Part.val b)) ∧ Below w.heap.size w w' := by
  have hmf : ∀ (fn : Fn) (first cap : Array Value) (w : World), (Instr.makeFunc fn first cap).run Try.prog w = .ok (.func fn first cap) w := fun _ _ _ _ => rfl
  have hc := h.cellk
  go_enter Try.func18, Try.ntmps18
  go_wp2
  all_goals go_ret
  all_goals refine ⟨_, rfl, ?_, by first | exact Below.refl _ _ | exact (Below.refl _ _).alloc (Nat.le_refl _) _⟩
  all_goals
    simp only [beq_iff_eq, beq_eq_false_iff_ne] at *
    first
    | (rw [show partsOf c.k = [] by simp [partsOf, *]]; exact World.ownsRow_nil _ _ _ _)
    | (rw [show partsOf c.k = [.a, .t] by simp [partsOf, *]]; exact ownsRow_full _ _ _ _ _ rfl rfl (by decide))
    | (rw [show partsOf c.k = [.a, .b] by simp [partsOf, *]]; exact ownsRow_full _ _ _ _ _ rfl rfl (by decide))
    | (rw [show partsOf c.k = [.a, .b, .t] by simp [partsOf, *]]; exact ownsRow_full _ _ _ _ _ rfl rfl (by decide))
    | (rw [show partsOf c.k = [.t] by simp [partsOf, *]]; exact ownsRow_full _ _ _ _ _ rfl rfl (by decide))
    | (rw [show partsOf c.k = [.a, .b, .l] by simp [partsOf, *]]; exact ownsRow_full _ _ _ _ _ rfl rfl (by decide))
    | (rw [show partsOf c.k = [.l, .b, .t] by simp [partsOf, *]]; exact ownsRow_full _ _ _ _ _ rfl rfl (by decide))
    | (rw [show partsOf c.k = [.t, .u] by simp [partsOf, *]]; exact ownsRow_full _ _ _ _ _ rfl rfl (by decide))
end Go.Proofs.Ytcjahjhpbffcfaa
