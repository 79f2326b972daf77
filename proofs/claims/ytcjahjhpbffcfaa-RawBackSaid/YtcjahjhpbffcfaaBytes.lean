/-
  raw.bytes and its three closures: the bytes of a command.
-/
import Derived.Test.YtcjahjhpbffcfaaDec
import Derived.Deep.RegionHeld3
import Derived.Lib.AppendStr
import Derived.Deep.AppendLies
namespace Go.Proofs.Ytcjahjhpbffcfaa
open Go.RowKit

theorem encPair_length (v : Int) : (encPair v).length = 2 := rfl
theorem encText_length (s : List UInt8) : (encText s).length = s.length + 1 := by simp [encText]
def bv (l : List UInt8) : List Value := l.map fun u => .int .u8 (u.toNat : Int)
theorem bv_length (l : List UInt8) : (bv l).length = l.length := by simp [bv]
theorem bv_append (a b : List UInt8) : bv (a ++ b) = bv a ++ bv b := List.map_append
theorem Try.info5 : (Try.prog.info? 5).map (fun i => (i.zero, i.size, i.bytes)) = some (some (.int .u8 0), 1, 1) := by kernel_rfl

theorem strCells_list (l : List UInt8) : Lib.strCells ⟨l.toArray⟩ = bv l := rfl
theorem size_list (l : List UInt8) : (⟨l.toArray⟩ : ByteArray).size = l.length := by simp [ByteArray.size]

theorem text20_any (s : List UInt8) (w : World) (hm : s.length ≤ 1099511627776) :
    Calls Try.prog 20 #[.string ⟨s.toArray⟩] w fun e w' => ∃ v, e = .returned v ∧ w'.ownsRow w.heap.size 5 1 v (encText s).length (bv (encText s)) ∧ Below w.heap.size w w' := by
  obtain ⟨i0, hi0, hz0, hz1, hz2⟩ := info_parts Try.info5
  go_enter Try.func20, Try.ntmps20
  go_wp2_with (at_builtin; refine Lib.wpList_append_own_string _ rfl _ _ 33 9 rfl w.heap.size 5 i0 Try.underlying33 Try.underlying9 hi0 hz0 hz1 hz2 _ 1 [.int .u8 ((s.length : Int) % 256)] rfl (ownsRow_full _ _ _ _ _ rfl rfl (by decide)) ⟨s.toArray⟩ rfl ?c1 ?c2 ?c3 ?_)
  case c1 => rw [size_list]; unfold maxLen; omega
  case c2 => rw [size_list]; omega
  case c3 => simp
  intro v' w' hown hg _
  go_wp2
  go_ret
  refine ⟨_, rfl, ?_, ((Below.refl _ _).alloc (Nat.le_refl _) _).grown hg (by simp) (fun k hk => by simp [Value.ownBlock] at hk; omega)⟩
  rw [strCells_list] at hown
  have e : bv (encText s) = .int .u8 ((s.length : Int) % 256) :: bv s := by simp [bv, encText, b1_val]
  rw [e, show (encText s).length = 1 + s.length by simp [encText]; omega]
  exact hown

theorem pair21_any (v : Int) (w : World) :
    Calls Try.prog 21 #[.int .i64 v] w fun e w' => ∃ v', e = .returned v' ∧ w'.ownsRow w.heap.size 5 1 v' 2 (bv (encPair v)) ∧ Below w.heap.size w w' := by
  go_enter Try.func21, Try.ntmps21
  go_wp2
  go_ret
  refine ⟨_, rfl, ?_, (Below.refl _ _).alloc (Nat.le_refl _) _⟩
  exact ownsRow_full _ _ _ _ _ rfl (by simp [bv, encPair, b1_val]) (by decide)

/-- The world w' is w but for new blocks and the blocks of F. -/
structure Chg (F : Nat → Prop) (w w' : World) : Prop where
  os : w'.os = w.os
  tape : w'.tape = w.tape
  output : w'.output = w.output
  size : w.heap.size ≤ w'.heap.size
  block : ∀ k, k < w.heap.size → ¬ F k → w'.heap[k]? = w.heap[k]?
theorem Chg.refl (F : Nat → Prop) (w : World) : Chg F w w := ⟨rfl, rfl, rfl, Nat.le_refl _, fun _ _ _ => rfl⟩
theorem Chg.trans {F : Nat → Prop} {a b c : World} (h : Chg F a b) (k : Chg F b c) : Chg F a c :=
  ⟨k.os.trans h.os, k.tape.trans h.tape, k.output.trans h.output, Nat.le_trans h.size k.size, fun i hi hn => (k.block i (Nat.lt_of_lt_of_le hi h.size) hn).trans (h.block i hi hn)⟩
/-- What follows may change besides F whatever is new. -/
theorem Chg.step {F G : Nat → Prop} {a b c : World} (h : Chg F a b) (k : Chg G b c) (hg : ∀ i, i < a.heap.size → G i → F i) : Chg F a c :=
  ⟨k.os.trans h.os, k.tape.trans h.tape, k.output.trans h.output, Nat.le_trans h.size k.size, fun i hi hn => (k.block i (Nat.lt_of_lt_of_le hi h.size) (fun g => hn (hg i hi g))).trans (h.block i hi hn)⟩
theorem Chg.of_grownBy {w w' : World} {r : Option Nat} (h : w.grownBy w' r) : Chg (fun k => some k = r) w w' := ⟨h.os, h.tape, h.output, h.size, fun k hk hn => h.block k hk hn⟩
theorem Chg.below {F : Nat → Prop} {w w' : World} {B : Nat} (h : Chg F w w') (hB : B ≤ w.heap.size) (hF : ∀ k, F k → B ≤ k) : Below B w w' :=
  ⟨h.os, h.tape, h.output, h.size, fun k hk => h.block k (Nat.lt_of_lt_of_le hk hB) (fun f => by have := hF k f; omega)⟩
theorem Chg.setCell (w : World) (b off : Nat) (v : Value) : Chg (fun k => k = b) w (w.setCell ⟨b, off, none⟩ v) := by
  have h := grownBy_setCell w b off v
  exact ⟨h.os, h.tape, h.output, h.size, fun k hk hn => h.block k hk (by simpa using hn)⟩
theorem Chg.cell {F : Nat → Prop} {w w' : World} (h : Chg F w w') {b off : Nat} {v : Value} (hc : w.cell? ⟨b, off, none⟩ = some v) (hn : ¬ F b) : w'.cell? ⟨b, off, none⟩ = some v :=
  (World.cell?_of_block (w := w) (h.block b (World.block_lt_of_cell? w _ hc) hn)).trans hc

/-- A piece: a slice of bytes. -/
def Piece (w : World) (F : Nat → Prop) (v : Value) (l : List UInt8) : Prop :=
  ∃ b cap, v = .slice (some ⟨b, 0, none⟩) l.length cap ∧ ¬ F b ∧ ∀ (j : Nat) u, (bv l)[j]? = some u → w.cell? ⟨b, j, none⟩ = some u
theorem Piece.chg {w w' : World} {F : Nat → Prop} {v : Value} {l : List UInt8} (h : Piece w F v l) (hc : Chg F w w') : Piece w' F v l := by
  obtain ⟨b, cap, h1, h2, h3⟩ := h
  exact ⟨b, cap, h1, h2, fun j u hj => hc.cell (h3 j u hj) h2⟩

theorem flat_take (ps : List (Value × List UInt8)) (i : Nat) (h : i < ps.length) : (ps.take (i + 1)).flatMap (·.2) = (ps.take i).flatMap (·.2) ++ ps[i].2 := by
  rw [List.take_succ_eq_append_getElem h, List.flatMap_append, List.flatMap_cons, List.flatMap_nil, List.append_nil]
theorem flat_len (ps : List (Value × List UInt8)) (i : Nat) : ((ps.take i).flatMap (·.2)).length ≤ (ps.flatMap (·.2)).length := by
  have h := congrArg (fun l : List (Value × List UInt8) => (l.flatMap (·.2)).length) (List.take_append_drop i ps)
  simp only [List.flatMap_append, List.length_append] at h
  omega

def putAll (acc : List UInt8) (ps : List (Value × List UInt8)) : List UInt8 := acc ++ ps.flatMap (·.2)
def PutPost (w : World) (Bo base : Nat) (vo : Value) (l : List UInt8) (w' : World) : Prop :=
  ∃ vo', w'.heap[Bo]? = some (.cells #[vo'] 33 (0, 0)) ∧ w'.ownsRow base 5 1 vo' l.length (bv l) ∧ Chg (fun k => k = Bo ∨ some k = vo.ownBlock) w w'

/-- The loop of put: i pieces are put. -/
def PutI (w : World) (Bo base : Nat) (vo : Value) (acc : List UInt8) (ps : List (Value × List UInt8)) (v : Value) (wr : World) : Prop :=
  ∃ i : Nat, ∃ vi, i ≤ ps.length ∧ v = .int .i64 i ∧ wr.heap[Bo]? = some (.cells #[vi] 33 (0, 0)) ∧
    wr.ownsRow base 5 1 vi (acc ++ (ps.take i).flatMap (·.2)).length (bv (acc ++ (ps.take i).flatMap (·.2))) ∧ (vi.ownBlock = vo.ownBlock ∨ ∃ g, vi.ownBlock = some g ∧ w.heap.size ≤ g) ∧
    Chg (fun k => k = Bo ∨ some k = vo.ownBlock) w wr

theorem oneCell_bv (l : List UInt8) : ∀ u ∈ bv l, u.oneCell' = true := by
  intro u hu
  obtain ⟨_, _, rfl⟩ := List.mem_map.1 hu
  rfl

theorem put_any (g Bo base cap : Nat) (vo : Value) (acc : List UInt8) (ps : List (Value × List UInt8)) (w : World)
    (hlen : (acc ++ ps.flatMap (·.2)).length ≤ 1099511627776) (hpl : ps.length ≤ 1000) (hbase : base ≤ w.heap.size)
    (hout : w.heap[Bo]? = some (.cells #[vo] 33 (0, 0))) (hown : w.ownsRow base 5 1 vo acc.length (bv acc)) (hoB : vo.ownBlock ≠ some Bo)
    (hg : ¬ (g = Bo ∨ some g = vo.ownBlock)) (hcells : ∀ (j : Nat) p, ps[j]? = some p → w.cell? ⟨g, j, none⟩ = some p.1 ∧ p.2 ≠ [] ∧ Piece w (fun k => k = Bo ∨ some k = vo.ownBlock) p.1 p.2) :
    Calls Try.prog 22 #[.slice (some ⟨g, 0, none⟩) ps.length cap, .pointer (some ⟨Bo, 0, none⟩)] w fun e w' => e = .returned (.tuple #[]) ∧
      PutPost w Bo base vo (putAll acc ps) w' := by
  obtain ⟨i0, hi0, hz0, hz1, hz2⟩ := info_parts Try.info5
  go_enter Try.func22, Try.ntmps22
  go_wp2_with fail
  go_loopw [7] (fun v wr => PutI w Bo base vo acc ps v wr) (fun v _ => ps.length - (intOf v).toNat)
  case atStart => exact ⟨0, vo, Nat.zero_le _, rfl, hout, by simpa using hown, .inl rfl, Chg.refl _ _⟩
  case round =>
    obtain ⟨i, vi, hi, rfl, ho, hrow, hb, hch⟩ := hrel
    by_cases hlt : i < ps.length
    · obtain ⟨hc, hne, hp⟩ := hcells i ps[i] (by simp [hlt])
      have hc' := hch.cell hc hg
      obtain ⟨pb, pcap, hpv, hpF, hpc⟩ := hp.chg hch
      have hco := cell_of_one ho
      have hfo := free_of_one ho
      rw [hpv] at hc'
      have hbo : vi.ownBlock ≠ some Bo := by
        rcases hb with hb | ⟨g', hg', hge⟩
        · rw [hb]; exact hoB
        · rw [hg']; have := (Array.getElem?_eq_some_iff.1 hout).1; intro e; simp at e; omega
      have hpl : 0 < ps[i].2.length := List.length_pos_iff.2 hne
      have htl : (acc ++ (ps.take (i + 1)).flatMap (·.2)) = (acc ++ (ps.take i).flatMap (·.2)) ++ ps[i].2 := by
        rw [flat_take ps i hlt, List.append_assoc]
      have hsub := flat_len ps (i + 1)
      rw [flat_take ps i hlt, List.length_append] at hsub
      rw [List.length_append] at hlen
      have hsum : (acc ++ (ps.take i).flatMap (·.2)).length + ps[i].2.length ≤ 1099511627776 := by
        rw [List.length_append]; omega
      have HT := Lib.hid htl
      clear htl hsub hc
      generalize acc ++ (ps.take i).flatMap (·.2) = ai at *
      obtain ⟨li, hli⟩ : ∃ li, ps[i].2 = li := ⟨_, rfl⟩
      rw [hli] at hne hp hpv hpc hc' hpl hsum HT
      clear hli
      go_wp2_with (at_builtin; go_must (refine wpList_append_lies _ rfl _ _ 33 rfl base 5 i0 _ 1 1 Try.underlying33 hi0 hz0 hz1 hz2 rfl (by decide) _ _ _ rfl hrow ⟨pb, 0, none⟩ li.length pcap (bv li) rfl ?c1 ?c2 ?c3 ?c4 ?c5 ?c6 ?c7 _ rfl ?_))
      case c1 => simp [bv]
      case c2 => intro j u hj; exact hpc j u hj
      case c3 => exact oneCell_bv _
      case c5 => unfold maxLen; omega
      case c6 => omega
      case c7 => exact Nat.le_trans hbase hch.size
      intro q cq w1 hown1 hgrow hat hlq
      have ho1 : w1.heap[Bo]? = some (.cells #[vi] 33 (0, 0)) := by rw [hgrow.block Bo (Array.getElem?_eq_some_iff.1 ho).1 (by intro e; exact hbo e.symm)]; exact ho
      have hco1 := cell_of_one ho1
      have hfo1 := free_of_one ho1
      clear hco hfo hc' hpc
      go_wp2_with fail
      go_roundw
      case rel =>
        refine ⟨i + 1, _, by omega, by go_num, one_setCell ho1, ?_, ?_, ?_⟩
        · rw [HT.out, List.length_append, bv_append]
          refine ownsRow_setCell_other hown1 ?_ _
          intro e
          simp [Value.ownBlock] at e
          rcases hat with h | h
          · exact hbo (by rw [h, e])
          · have := (Array.getElem?_eq_some_iff.1 ho).1; omega
        · rcases hat with h | h
          · rcases hb with hb | ⟨g', hg', hge⟩
            · left; rw [← hb, h]; rfl
            · right; exact ⟨g', by rw [← hg', h]; rfl, hge⟩
          · right; exact ⟨q, rfl, by have := hch.size; omega⟩
        · refine (hch.step (Chg.of_grownBy hgrow) ?_).step (Chg.setCell _ _ _ _) (fun k _ hk => .inl hk)
          intro k hk hkb
          rcases hb with hb | ⟨g', hg', hge⟩
          · right; rw [← hb]; exact hkb
          · rw [hg'] at hkb; simp at hkb; omega
      case measure => simp [intOf]; omega
    · have hfin : i = ps.length := by omega
      rw [hfin, List.take_length] at hrow
      clear hfin
      go_wp2
      go_end0
      exact ⟨rfl, vi, ho, hrow, hch⟩

/-- What bytes has laid: the command's box, the first byte's row, the variable out. -/
structure Laid (w : World) (c : C) (W : World) : Prop where
  box : W.heap[w.heap.size]? = some (.cells c.cells.toArray 35 (0, 0))
  row : W.heap[w.heap.size + 1]? = some (.cells #[.int .u8 (c.k % 256)] 5 (0, 0))
  out : W.heap[w.heap.size + 2]? = some (.cells #[.slice (some ⟨w.heap.size + 1, 0, none⟩) 1 1] 33 (0, 0))
  bel : Below w.heap.size w W
theorem Laid.lt {w : World} {c : C} {W : World} (h : Laid w c W) : w.heap.size + 2 < W.heap.size := (Array.getElem?_eq_some_iff.1 h.out).1
theorem Laid.on {w : World} {c : C} {W W' : World} (h : Laid w c W) (hb : Below W.heap.size W W') : Laid w c W' := by
  have := h.lt
  exact ⟨by rw [hb.block _ (by omega)]; exact h.box, by rw [hb.block _ (by omega)]; exact h.row, by rw [hb.block _ (by omega)]; exact h.out, h.bel.trans (hb.mono (by omega))⟩
theorem Laid.drew {w : World} {c : C} {W : World} (h : Laid w c W) : Laid w c W.drew := h.on (Below.refl _ _).drew
theorem Laid.alloc {w : World} {c : C} {W : World} (h : Laid w c W) (o : Obj) : Laid w c (W.alloc o) := h.on ((Below.refl _ _).alloc (Nat.le_refl _) _)
theorem Laid.start (w : World) (c : C) (kk : Int) (hk : c.k % 256 = kk) :
    Laid w c (((w.alloc (.cells c.cells.toArray 35)).alloc (.cells #[.int .u8 kk] 5)).alloc (.cells #[.slice (some ⟨w.heap.size + 1, 0, none⟩) 1 1] 33)) := by
  subst hk
  refine ⟨?_, ?_, ?_, (((Below.refl _ _).alloc (Nat.le_refl _) _).alloc (by simp) _).alloc (by simp; omega) _⟩
  · rw [heap_alloc_old _ _ (by simp; omega), heap_alloc_old _ _ (by simp), heap_alloc_new]
  · rw [heap_alloc_old _ _ (by simp)]
    have := heap_alloc_new (w.alloc (.cells c.cells.toArray 35)) (.cells #[.int .u8 (c.k % 256)] 5)
    simpa using this
  · have := heap_alloc_new ((w.alloc (.cells c.cells.toArray 35)).alloc (.cells #[.int .u8 (c.k % 256)] 5)) (.cells #[.slice (some ⟨w.heap.size + 1, 0, none⟩) 1 1] 33)
    simpa using this
theorem Laid.cell {w : World} {c : C} {W : World} (h : Laid w c W) (i : Nat) (v : Value) (hv : c.cells[i]? = some v) : W.cell? ⟨w.heap.size, i, none⟩ = some v := by
  have := h.box
  simp [World.cell?, this, hv]

/-- A piece that the call has made. -/
def PieceN (B : Nat) (W : World) (v : Value) (l : List UInt8) : Prop := l ≠ [] ∧ W.ownsRow B 5 1 v l.length (bv l)
theorem PieceN.on {B : Nat} {W W' : World} {v : Value} {l : List UInt8} (h : PieceN B W v l) (hb : Below W.heap.size W W') : PieceN B W' v l := ⟨h.1, below_kept h.2 hb⟩
theorem PieceN.drew {B : Nat} {W : World} {v : Value} {l : List UInt8} (h : PieceN B W v l) : PieceN B W.drew v l := h

/-- The end of put. -/
def PutEnd (w : World) (c : C) (l : List UInt8) (w' : World) : Prop :=
  ∃ vo, w'.heap[w.heap.size]? = some (.cells c.cells.toArray 35 (0, 0)) ∧ w'.heap[w.heap.size + 2]? = some (.cells #[vo] 33 (0, 0)) ∧ w'.ownsRow w.heap.size 5 1 vo l.length (bv l) ∧ Below w.heap.size w w'

theorem put_call (w : World) (c : C) (W : World) (ps : List (Value × List UInt8)) (hL : Laid w c W) (hp : ∀ p ∈ ps, PieceN (w.heap.size + 3) W p.1 p.2) (hn : ps.length ≤ 1000)
    (hlen : (ps.flatMap (·.2)).length ≤ 1000000000) :
    Calls Try.prog 22 #[.slice (some ⟨W.heap.size, 0, none⟩) ps.length ps.length, .pointer (some ⟨w.heap.size + 2, 0, none⟩)] (W.alloc (.cells (ps.map (·.1)).toArray 33)) fun e w' =>
      e = .returned (.tuple #[]) ∧ PutEnd w c (b1 c.k :: ps.flatMap (·.2)) w' := by
  have hlt := hL.lt
  have hL2 := hL.alloc (.cells (ps.map (·.1)).toArray 33)
  have hrow : (W.alloc (.cells (ps.map (·.1)).toArray 33)).ownsRow w.heap.size 5 1 (.slice (some ⟨w.heap.size + 1, 0, none⟩) 1 1) [b1 c.k].length (bv [b1 c.k]) := by
    refine ⟨by simp [bv], .inr ⟨_, _, _, rfl, by omega, hL2.row, Nat.le_refl _, by decide, rfl, by simp [bv, b1_val]⟩⟩
  refine (put_any W.heap.size (w.heap.size + 2) w.heap.size ps.length _ [b1 c.k] ps _ (by simp at hlen ⊢; omega) hn (by simp; omega) hL2.out hrow (by simp [Value.ownBlock]) ?_ ?_).mono ?_
  · simp [Value.ownBlock]; omega
  · intro j p hj
    have hm : p ∈ ps := List.mem_of_getElem? hj
    obtain ⟨hne, hpr⟩ := hp p hm
    refine ⟨?_, hne, ?_⟩
    · rw [cell_alloc_new]; simp [hj]
    · have hpr' := hpr.alloc (.cells (ps.map (·.1)).toArray 33)
      obtain ⟨gb, cap, hv, hge, hc⟩ := ownsRow_cell1 hpr' (List.length_pos_iff.2 hne)
      exact ⟨gb, cap, hv, by simp [Value.ownBlock]; omega, hc⟩
  · rintro e w' ⟨he, vo, h1, h2, h3⟩
    refine ⟨he, vo, by rw [h3.block _ (by simp; omega) (by simp [Value.ownBlock])]; exact hL2.box, h1, h2, ?_⟩
    have := h3.below (B := w.heap.size) (by simp; omega) (by rintro k (h | h); omega; simp [Value.ownBlock] at h; omega)
    exact hL2.bel.trans this

theorem piece_form {w' : World} {B : Nat} {v' : Value} {l : List UInt8} (h : PieceN B w' v' l) : ∃ b cap, v' = .slice (some ⟨b, 0, none⟩) l.length cap := by
  obtain ⟨b, cap, hv, _⟩ := ownsRow_cell1 h.2 (List.length_pos_iff.2 h.1)
  exact ⟨b, cap, hv⟩
theorem piece_pair (v : Int) (w : World) (B : Nat) (hB : B ≤ w.heap.size) :
    Calls Try.prog 21 #[.int .i64 v] w fun e w' => ∃ b cap, e = .returned (.slice (some ⟨b, 0, none⟩) 2 cap) ∧ PieceN B w' (.slice (some ⟨b, 0, none⟩) 2 cap) (encPair v) ∧ Below w.heap.size w w' :=
  (pair21_any v w).mono fun _ w' ⟨v', h1, h2, h3⟩ => by
    have hp : PieceN B w' v' (encPair v) := ⟨by simp [encPair], ownsRow_base h2 hB⟩
    obtain ⟨b, cap, rfl⟩ := piece_form hp
    exact ⟨b, cap, h1, hp, h3⟩
theorem piece_text (s : List UInt8) (w : World) (hm : s.length ≤ 1000000) (B : Nat) (hB : B ≤ w.heap.size) :
    Calls Try.prog 20 #[.string ⟨s.toArray⟩] w fun e w' => ∃ b cap, e = .returned (.slice (some ⟨b, 0, none⟩) (encText s).length cap) ∧ PieceN B w' (.slice (some ⟨b, 0, none⟩) (encText s).length cap) (encText s) ∧ Below w.heap.size w w' :=
  (text20_any s w (by omega)).mono fun _ w' ⟨v', h1, h2, h3⟩ => by
    have hp : PieceN B w' v' (encText s) := ⟨by simp [encText], ownsRow_base h2 hB⟩
    obtain ⟨b, cap, rfl⟩ := piece_form hp
    exact ⟨b, cap, h1, hp, h3⟩

theorem pieces1 {B : Nat} {W : World} {v1 : Value} {l1 : List UInt8} (h1 : PieceN B W v1 l1) : ∀ p ∈ [(v1, l1)], PieceN B W p.1 p.2 := by
  intro p hp; simp at hp; rw [hp]; exact h1
theorem pieces2 {B : Nat} {W : World} {v1 v2 : Value} {l1 l2 : List UInt8} (h1 : PieceN B W v1 l1) (h2 : PieceN B W v2 l2) : ∀ p ∈ [(v1, l1), (v2, l2)], PieceN B W p.1 p.2 := by
  intro p hp; simp at hp; rcases hp with hp | hp <;> rw [hp] <;> assumption
theorem pieces3 {B : Nat} {W : World} {v1 v2 v3 : Value} {l1 l2 l3 : List UInt8} (h1 : PieceN B W v1 l1) (h2 : PieceN B W v2 l2) (h3 : PieceN B W v3 l3) : ∀ p ∈ [(v1, l1), (v2, l2), (v3, l3)], PieceN B W p.1 p.2 := by
  intro p hp; simp at hp; rcases hp with hp | hp | hp <;> rw [hp] <;> assumption

theorem put1 (w : World) (c : C) (W : World) (v1 : Value) (l1 : List UInt8) (hL : Laid w c W) (h1 : PieceN (w.heap.size + 3) W v1 l1) (hlen : l1.length ≤ 1000000000) :
    Calls Try.prog 22 #[.slice (some ⟨W.heap.size, 0, none⟩) 1 1, .pointer (some ⟨w.heap.size + 1 + 1, 0, none⟩)] (W.alloc (.cells #[v1] 33)) fun e w' =>
      e = .returned (.tuple #[]) ∧ PutEnd w c (b1 c.k :: l1) w' := by
  have := put_call w c W [(v1, l1)] hL (pieces1 h1) (by simp) (by simp; omega)
  simpa using this
theorem put2 (w : World) (c : C) (W : World) (v1 v2 : Value) (l1 l2 : List UInt8) (hL : Laid w c W) (h1 : PieceN (w.heap.size + 3) W v1 l1) (h2 : PieceN (w.heap.size + 3) W v2 l2) (hlen : l1.length + l2.length ≤ 1000000000) :
    Calls Try.prog 22 #[.slice (some ⟨W.heap.size, 0, none⟩) 2 2, .pointer (some ⟨w.heap.size + 1 + 1, 0, none⟩)] (W.alloc (.cells #[v1, v2] 33)) fun e w' =>
      e = .returned (.tuple #[]) ∧ PutEnd w c (b1 c.k :: (l1 ++ l2)) w' := by
  have := put_call w c W [(v1, l1), (v2, l2)] hL (pieces2 h1 h2) (by simp) (by simp; omega)
  simpa using this
theorem put3 (w : World) (c : C) (W : World) (v1 v2 v3 : Value) (l1 l2 l3 : List UInt8) (hL : Laid w c W) (h1 : PieceN (w.heap.size + 3) W v1 l1) (h2 : PieceN (w.heap.size + 3) W v2 l2) (h3 : PieceN (w.heap.size + 3) W v3 l3) (hlen : l1.length + l2.length + l3.length ≤ 1000000000) :
    Calls Try.prog 22 #[.slice (some ⟨W.heap.size, 0, none⟩) 3 3, .pointer (some ⟨w.heap.size + 1 + 1, 0, none⟩)] (W.alloc (.cells #[v1, v2, v3] 33)) fun e w' =>
      e = .returned (.tuple #[]) ∧ PutEnd w c (b1 c.k :: (l1 ++ (l2 ++ l3))) w' := by
  have := put_call w c W [(v1, l1), (v2, l2), (v3, l3)] hL (pieces3 h1 h2 h3) (by simp) (by simp; omega)
  simpa using this

def BytesPost (w : World) (l : List UInt8) (e : Ending) (w' : World) : Prop := ∃ v, e = .returned v ∧ w'.ownsRow w.heap.size 5 1 v l.length (bv l) ∧ Below w.heap.size w w'

theorem PutEnd.cell {w : World} {c : C} {l : List UInt8} {W : World} (h : PutEnd w c l W) (i : Nat) (v : Value) (hv : c.cells[i]? = some v) : W.cell? ⟨w.heap.size, i, none⟩ = some v := by
  obtain ⟨_, h, _⟩ := h
  simp [World.cell?, h, hv]
theorem bytes_insert (a b c0 : Int) (s t : List UInt8) (w : World) (hs : s.length ≤ 100000) :
    Calls Try.prog 15 #[.agg (C.mk 1 a b c0 s t).cells.toArray] w (BytesPost w (enc (C.mk 1 a b c0 s t))) := by
  have hmf : ∀ (fn : Fn) (first cap : Array Value) (w : World), (Instr.makeFunc fn first cap).run Try.prog w = .ok (.func fn first cap) w := fun _ _ _ _ => rfl
  have hL0 := Laid.start w (C.mk 1 a b c0 s t) 1 (by simp)
  have hp : partsOf 1 = [.a, .t] := by decide
  have HE : Hid (enc (C.mk 1 a b c0 s t) = b1 1 :: (encPair a ++ encText s)) := by simp [Hid, enc, hp, Part.enc]
  clear hp
  simp only [C.cells] at *
  go_enter Try.func15, Try.ntmps15
  go_wp2_with fail
  generalize ((w.alloc (.cells #[.int .i64 1, .int .i64 a, .int .i64 b, .int .i64 c0, .string { data := s.toArray }, .string { data := t.toArray }] 35)).alloc (.cells #[.int .u8 1] 5)).alloc (.cells #[.slice (some ⟨w.heap.size + 1, 0, none⟩) 1 1] 33) = W at *
  have hL := hL0.drew
  clear hL0
  have hlt := hL.lt
  have k1 := hL.cell 1 _ rfl
  have k2 := hL.cell 4 _ rfl
  go_region_held3 (fun w' => w'.cell? ⟨w.heap.size, 1, none⟩ = some (.int .i64 a) ∧ w'.cell? ⟨w.heap.size, 4, none⟩ = some (.string ⟨s.toArray⟩))
    (first | go_keep | exact ⟨(hL.on hb1).cell 1 _ rfl, (hL.on hb1).cell 4 _ rfl⟩ | exact ⟨((hL.on hb1).on hb2).cell 1 _ rfl, ((hL.on hb1).on hb2).cell 4 _ rfl⟩ | exact ⟨hp3.cell 1 _ rfl, hp3.cell 4 _ rfl⟩)
    (first
      | (go_at_call 21; refine (piece_pair a _ (w.heap.size + 3) ?_).mono ?_; exact hlt; rintro e w1 ⟨p1, q1, rfl, hp1, hb1⟩)
      | (go_at_call 20; refine (piece_text s _ (by omega) (w.heap.size + 3) ?_).mono ?_; exact Nat.le_trans hlt hb1.size; rintro e w2 ⟨p2, q2, rfl, hp2, hb2⟩)
      | (go_at_call 22; refine (put2 w _ _ _ _ _ _ ((hL.on hb1).on hb2) (hp1.on hb2) hp2 ?_).mono ?_; (simp [encPair, encText]; omega); rintro e w3 ⟨rfl, hp3⟩))
  obtain ⟨vo, hbx, ho, hr, hb⟩ := hp3
  have hc : w3.cell? ⟨w.heap.size + 1 + 1, 0, none⟩ = some vo := cell_of_one ho
  clear hL k1 k2 hlt hp1 hp2 hb1 hb2 hbx ho
  go_wp2
  go_ret
  rw [HE.out]
  exact ⟨_, rfl, hr, hb⟩
end Go.Proofs.Ytcjahjhpbffcfaa
