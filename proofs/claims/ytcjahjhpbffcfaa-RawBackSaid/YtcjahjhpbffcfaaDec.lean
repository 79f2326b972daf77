/-
  raw.Decode: what it answers.
-/
import Derived.Test.YtcjahjhpbffcfaaRead
import Derived.Deep.LoopGhost
namespace Go.Proofs.Ytcjahjhpbffcfaa
open Go.RowKit

def cellsOf (l : List C) : List Value := l.flatMap C.cells
theorem cellsOf_length (l : List C) : (cellsOf l).length = l.length * 6 := by
  induction l with
  | nil => rfl
  | cons c r ih => simp [cellsOf, C.cells] at *; omega
theorem cellsOf_snoc (l : List C) (c : C) : cellsOf (l ++ [c]) = cellsOf l ++ c.cells := by simp [cellsOf]

theorem Try.info35 : (Try.prog.info? 35).map (fun i => (i.zero, i.size, i.bytes)) = some (some (.agg #[.int .i64 0, .int .i64 0, .int .i64 0, .int .i64 0, .string ByteArray.empty, .string ByteArray.empty]), 6, 64) := by kernel_rfl

theorem Rd.setCmd {w : World} {b : Nat} {s : List UInt8} {c : C} (h : Rd w b s c) (k : Int) :
    Rd ((((((w.setCell ⟨b, 1, none⟩ (.int .i64 k)).setCell ⟨b, 2, none⟩ (.int .i64 0)).setCell ⟨b, 3, none⟩ (.int .i64 0)).setCell ⟨b, 4, none⟩ (.int .i64 0)).setCell ⟨b, 5, none⟩ (.string { data := #[] })).setCell ⟨b, 6, none⟩ (.string { data := #[] })) b s ⟨k, 0, 0, 0, [], []⟩ := by
  unfold Rd at *
  rw [heap_setCell_same (heap_setCell_same (heap_setCell_same (heap_setCell_same (heap_setCell_same (heap_setCell_same h)))))]
  rfl
theorem grownBy_setCmd (w : World) (b : Nat) (k : Int) :
    w.grownBy ((((((w.setCell ⟨b, 1, none⟩ (.int .i64 k)).setCell ⟨b, 2, none⟩ (.int .i64 0)).setCell ⟨b, 3, none⟩ (.int .i64 0)).setCell ⟨b, 4, none⟩ (.int .i64 0)).setCell ⟨b, 5, none⟩ (.string { data := #[] })).setCell ⟨b, 6, none⟩ (.string { data := #[] })) (some b) :=
  grownBy_trans (grownBy_trans (grownBy_trans (grownBy_trans (grownBy_trans (grownBy_setCell _ _ _ _) (grownBy_setCell _ _ _ _)) (grownBy_setCell _ _ _ _)) (grownBy_setCell _ _ _ _)) (grownBy_setCell _ _ _ _)) (grownBy_setCell _ _ _ _)
theorem Rd.lt {w : World} {b : Nat} {s : List UInt8} {c : C} (h : Rd w b s c) : b < w.heap.size := (Array.getElem?_eq_some_iff.1 h).1
theorem Rd.below {w w' : World} {B b : Nat} {s : List UInt8} {c : C} (h : Rd w b s c) (hb : Below B w w') (hlt : b < B) : Rd w' b s c := by
  unfold Rd at *; rw [hb.block b hlt]; exact h
theorem Rd.kept {w w' : World} {b : Nat} {s : List UInt8} {c : C} {r : Option Nat} (h : Rd w b s c) (hg : w.grownBy w' r) (hne : some b ≠ r) : Rd w' b s c := by
  have := h.lt
  unfold Rd at *; rw [hg.block b this hne]; exact h
theorem below_kept {w w' : World} {base e size n : Nat} {v : Value} {xs : List Value} (h : w.ownsRow base e size v n xs) (hb : Below w.heap.size w w') : w'.ownsRow base e size v n xs := by
  refine h.kept (row := none) ⟨hb.os, hb.tape, hb.output, hb.size, fun k hk _ => hb.block k hk⟩ ?_
  rcases v with _ | _ | _ | _ | _ | _ | ⟨_ | a, _, _⟩ | _ | _ | _ | _ | _ | _ | _ | _ <;> simp [Value.ownBlock]
theorem below_of_grown {w w' : World} {B b : Nat} (hg : w.grownBy w' (some b)) (hB : B ≤ b) (hsz : B ≤ w.heap.size) : Below B w w' :=
  (Below.refl B w).grown hg hsz (fun k hk => by cases hk; exact hB)
theorem ownsRow_base {w : World} {base base' e size n : Nat} {v : Value} {xs : List Value} (h : w.ownsRow base e size v n xs) (hb : base' ≤ base) : w.ownsRow base' e size v n xs := by
  refine ⟨h.1, ?_⟩
  rcases h.2 with h | ⟨g, cap, cur, h1, h2, h3⟩
  · exact .inl h
  · exact .inr ⟨g, cap, cur, h1, Nat.le_trans hb h2, h3⟩
theorem ownsRow_cell1 {w : World} {base e n : Nat} {v : Value} {xs : List Value} (h : w.ownsRow base e 1 v n xs) (hn : 0 < n) :
    ∃ g cap, v = .slice (some ⟨g, 0, none⟩) n cap ∧ base ≤ g ∧ ∀ i u, xs[i]? = some u → w.cell? ⟨g, i, none⟩ = some u := by
  rcases h.2 with ⟨_, h0⟩ | ⟨g, cap, cur, h1, h2, h3, h4, h5, h6, h7⟩
  · omega
  · refine ⟨g, cap, h1, h2, fun i u hi => ?_⟩
    have := h.cells (g := g) (by rw [h1]; rfl) i u hi
    rw [Addr.add_lit] at this
    simpa using this
theorem ownsRow_slice {w : World} {base e size n : Nat} {v : Value} {xs : List Value} (h : w.ownsRow base e size v n xs) : ∃ a cap, v = .slice a n cap := by
  rcases h.2 with ⟨h, h0⟩ | ⟨g, cap, cur, h1, _⟩
  · exact ⟨none, 0, by rw [h, h0]⟩
  · exact ⟨_, _, h1⟩

def DecI (s : List UInt8) (B : Nat) (w0 : World) (g : Nat) (v : Value) (wr : World) : Prop :=
  ∃ rest c done, g = rest.length ∧ rest.length ≤ s.length ∧ dec s = done ++ dec rest ∧ Rd wr B rest c ∧ wr.ownsRow (B + 1) 35 6 v done.length (cellsOf done) ∧ Below B w0 wr

theorem partsOf_length (k : Int) : (partsOf k).length ≤ 3 := by
  unfold partsOf
  repeat' split
  all_goals simp

theorem callFunc_part (p : Part) (args : Array Value) (w : World) : Sem.run Try.prog (callFunc p.fn args) w = .ok (.enter p.fn args) w := by
  cases p <;> rfl
theorem own_ne {w : World} {B e size n : Nat} {v : Value} {xs : List Value} (h : w.ownsRow (B + 1) e size v n xs) : v.ownBlock ≠ some B := by
  intro he; have := (h.lt B he).1; omega
theorem C.cells_oneCell (c : C) : ∀ u ∈ c.cells, u.oneCell' = true := by
  intro u hu
  simp [C.cells] at hu
  rcases hu with rfl | rfl | rfl | rfl | rfl | rfl <;> rfl

theorem cell_alloc_new (w : World) (l : List Value) (T j : Nat) (fz : Nat × Nat) : (w.alloc (.cells l.toArray T fz)).cell? ⟨w.heap.size, j, none⟩ = l[j]? := by
  unfold World.cell?
  simp only [heap_alloc_new]
  simp

theorem runAll_snoc (l : List Part) (p : Part) (s : List UInt8) (c : C) : runAll (l ++ [p]) s c = p.run (runAll l s c).1 (runAll l s c).2 := by
  induction l generalizing s c with
  | nil => rfl
  | cons q r ih => simp only [List.cons_append, runAll]; exact ih _ _

/-- The inner loop: i parts are done. -/
def DecJ (l : List Part) (s : List UInt8) (c : C) (B : Nat) (w0 : World) (g : Nat) (v : Value) (wr : World) : Prop :=
  ∃ i : Nat, i ≤ l.length ∧ g = l.length - i ∧ v = .int .i64 i ∧ Rd wr B (runAll (l.take i) s c).1 (runAll (l.take i) s c).2 ∧ w0.grownBy wr (some B)

theorem decode_any (s : List UInt8) (w : World) (hm : s.length ≤ 1099511627776) :
    Calls Try.prog 10 #[.string ⟨s.toArray⟩] w fun e w' => ∃ v, e = .returned v ∧ w'.ownsRow (w.heap.size + 1) 35 6 v (dec s).length (cellsOf (dec s)) ∧ Below w.heap.size w w' := by
  obtain ⟨i0, hi0, hz0, hz1, hz2⟩ := info_parts Try.info35
  go_enter Try.func10, Try.ntmps10
  go_wp2_with fail
  go_loopg [3] s.length (fun g v wr => DecI s w.heap.size w g v wr)
  case atStart =>
    refine ⟨s, ⟨0, 0, 0, 0, [], []⟩, [], rfl, Nat.le_refl _, rfl, ?_, World.ownsRow_nil _ _ _ _, (Below.refl _ _).alloc (Nat.le_refl _) _⟩
    unfold Rd
    rw [heap_alloc_new]
  case round =>
    obtain ⟨rest, c, done, rfl, hl, hd, hr, hown, hb⟩ := hrel
    have hc := hr.cell
    by_cases hs : rest = []
    · subst hs
      go_wp2
      go_ret
      rw [hd, dec_nil, List.append_nil]
      exact ⟨_, rfl, hown, hb⟩
    · have he : rest.isEmpty = false := by simp [hs]
      go_wp2_with fail
      refine (next_any _ rest c _ hr (by omega)).mono ?_
      rintro e w1 ⟨rfl, h1, g1⟩
      have c1 := h1.cellk
      have c2 := h1.cella
      have c3 := h1.cellb
      have c4 := h1.cellc
      have c5 := h1.cells
      have c6 := h1.cellt
      have cf := h1.free
      go_wp2_with fail
      clear hc c1 c2 c3 c4 c5 c6 cf
      refine (parts_any _ _ _ _ (h1.setCmd _)).mono ?_
      rintro e w3 ⟨v, rfl, hp, hb3⟩
      have g2 := grownBy_setCmd w1 w.heap.size (Ytcjahjhpbffcfaa.hd rest)
      have h2 := h1.setCmd (Ytcjahjhpbffcfaa.hd rest)
      generalize ((((((w1.setCell ⟨w.heap.size, 1, none⟩ (.int .i64 (Ytcjahjhpbffcfaa.hd rest))).setCell ⟨w.heap.size, 2, none⟩ (.int .i64 0)).setCell ⟨w.heap.size, 3, none⟩ (.int .i64 0)).setCell ⟨w.heap.size, 4, none⟩ (.int .i64 0)).setCell ⟨w.heap.size, 5, none⟩ (.string { data := #[] })).setCell ⟨w.heap.size, 6, none⟩ (.string { data := #[] })) = w2 at *
      have h3 := h2.below hb3 h2.lt
      simp only [] at hp
      obtain ⟨ao, cap, hv⟩ := ownsRow_slice hp
      rw [hv] at hp ⊢
      go_wp2_with fail
      go_loopg [24] (partsOf (Ytcjahjhpbffcfaa.hd rest)).length (fun g v wr => DecJ (partsOf (Ytcjahjhpbffcfaa.hd rest)) rest.tail ⟨Ytcjahjhpbffcfaa.hd rest, 0, 0, 0, [], []⟩ w.heap.size w3 g v wr)
      case atStart =>
        exact ⟨0, Nat.zero_le _, rfl, rfl, h3, World.grownBy.refl _ _⟩
      case round =>
        obtain ⟨i, hi, rfl, rfl, hri, hgi⟩ := hrel
        have hlen := partsOf_length (Ytcjahjhpbffcfaa.hd rest)
        by_cases hlt : i < (partsOf (Ytcjahjhpbffcfaa.hd rest)).length
        · obtain ⟨gb, cap', hv', hgb, hcells⟩ := ownsRow_cell1 hp (by omega)
          obtain ⟨rfl, rfl⟩ : ao = some ⟨gb, 0, none⟩ ∧ cap = cap' := by simpa using hv'
          have hne : gb ≠ w.heap.size := by have := h2.lt; omega
          have hcell : wr.cell? ⟨gb, i, none⟩ = some (Part.val w.heap.size (partsOf (Ytcjahjhpbffcfaa.hd rest))[i]) :=
            hgi.cell (hcells i _ (by simp [hlt])) (by simpa using hne)
          have hcf := callFunc_part
          unfold Part.val at hcell
          go_wp2_with fail
          refine (part_any _ _ _ _ _ hri (Nat.le_trans (runAll_length _ _ _) (by simp; omega))).mono ?_
          rintro e w4 ⟨rfl, h4, g4⟩
          go_wp2_with fail
          go_roundg ((partsOf (Ytcjahjhpbffcfaa.hd rest)).length - (i + 1))
          case measure => omega
          case rel =>
            refine ⟨i + 1, by omega, rfl, by go_num, ?_, grownBy_trans hgi g4⟩
            rw [List.take_succ_eq_append_getElem hlt, runAll_snoc]
            exact h4
        · have hfin : i = (partsOf (Ytcjahjhpbffcfaa.hd rest)).length := by omega
          have hri' : Rd wr w.heap.size (one rest).1 (one rest).2 := by
            rw [hfin, List.take_length] at hri; exact hri
          clear hfin hri
          have hob : Below (w.heap.size) w wr := ((((hb.trans (below_of_grown g1 (Nat.le_refl _) hb.size)).trans (below_of_grown g2 (Nat.le_refl _) (Nat.le_of_lt h1.lt)))).trans (hb3.mono (Nat.le_of_lt h2.lt))).trans (below_of_grown hgi (Nat.le_refl _) (Nat.le_of_lt h3.lt))
          have hown' : wr.ownsRow (w.heap.size + 1) 35 6 u3 done.length (cellsOf done) :=
            (below_kept ((hown.kept g1 (.inr (own_ne hown))).kept g2 (.inr (own_ne hown))) hb3).kept hgi (.inr (own_ne hown))
          have hdl := dec_length s
          have hdl2 : done.length + 1 ≤ (dec s).length := by rw [hd, dec_ne hs]; simp
          have hwl : w.heap.size < wr.heap.size := hri'.lt
          have k1 := hri'.cellk
          have k2 := hri'.cella
          have k3 := hri'.cellb
          have k4 := hri'.cellc
          have k5 := hri'.cells
          have k6 := hri'.cellt
          go_wp2_with (at_builtin; go_must (refine wpList_append_own _ rfl _ _ 23 rfl (w.heap.size + 1) 35 i0 _ 6 64 Try.underlying23 hi0 hz0 hz1 hz2 rfl (by decide) _ _ _ rfl (hown'.alloc _) ⟨wr.heap.size, 0, none⟩ 1 1 (C.cells (one rest).2) rfl rfl ?c1 ?c2 ?c3 ?c4 ?c5 ?_))
          case c1 =>
            intro j u hj
            rw [Addr.add_lit, Nat.zero_add, cell_alloc_new]
            exact hj
          case c2 => exact C.cells_oneCell _
          case c3 => unfold maxLen; omega
          case c4 => omega
          case c5 => simp; omega
          intro v' w5 hown5 hg5 _
          clear k1 k2 k3 k4 k5 k6
          go_wp2_with fail
          go_roundg (one rest).1.length
          case measure => exact one_length rest hs
          case rel =>
            refine ⟨(one rest).1, (one rest).2, done ++ [(one rest).2], rfl, ?_, ?_, ?_, ?_, ?_⟩
            · have := one_length rest hs; omega
            · rw [hd, dec_ne hs]; simp
            · exact (hri'.kept (w' := wr.alloc _) (World.grownBy_alloc _ _ none) (by simp)).kept hg5 (own_ne hown').symm
            · rw [List.length_append, cellsOf_snoc]; exact hown5
            · exact (hob.alloc hob.size _).grown hg5 (by simp; omega) (fun k hk => by have := (hown'.lt k hk).1; omega)
end Go.Proofs.Ytcjahjhpbffcfaa
