/-
  Pieces and commands by numbers: each command can be said by bytes.
-/
import Derived.Test.YtcjahjhpbffcfaaWord
set_option linter.unusedVariables false
namespace Go.Proofs.Ytcjahjhpbffcfaa
open Go.RowKit

def PiecePost (w : World) (e : Ending) (w' : World) : Prop := ∃ s : List UInt8, s.length ≤ 20 ∧ e = .returned (.string ⟨s.toArray⟩) ∧ Below w.heap.size w w'

theorem piece_in (s1 s2 s3 : List UInt8) (h1 : s1.length ≤ 10) (h2 : s2.length ≤ 10) (h3 : s3.length ≤ 10) (j : Int) (h0 : 0 ≤ j) (hj : j < 12) :
    ∃ s : List UInt8, (#[.string ⟨#[32]⟩, .string ⟨#[120]⟩, .string ⟨#[39]⟩, .string ⟨#[115]⟩, .string ⟨#[117, 110]⟩, .string ⟨s1.toArray⟩, .string ⟨(s2 ++ [32]).toArray⟩, .string ⟨(32 :: s3).toArray⟩, .string ⟨#[195]⟩, .string ⟨#[195, 169]⟩, .string ⟨#[49]⟩, .string ⟨#[182]⟩] : Array Value)[j.toNat]? = some (.string ⟨s.toArray⟩) ∧ s.length ≤ 20 := by
  have : j = 0 ∨ j = 1 ∨ j = 2 ∨ j = 3 ∨ j = 4 ∨ j = 5 ∨ j = 6 ∨ j = 7 ∨ j = 8 ∨ j = 9 ∨ j = 10 ∨ j = 11 := by omega
  rcases this with rfl | rfl | rfl | rfl | rfl | rfl | rfl | rfl | rfl | rfl | rfl | rfl
  · exact ⟨[32], rfl, by decide⟩
  · exact ⟨[120], rfl, by decide⟩
  · exact ⟨[39], rfl, by decide⟩
  · exact ⟨[115], rfl, by decide⟩
  · exact ⟨[117, 110], rfl, by decide⟩
  · exact ⟨s1, rfl, by omega⟩
  · exact ⟨s2 ++ [32], rfl, by simp; omega⟩
  · exact ⟨32 :: s3, rfl, by simp; omega⟩
  · exact ⟨[195], rfl, by decide⟩
  · exact ⟨[195, 169], rfl, by decide⟩
  · exact ⟨[49], rfl, by decide⟩
  · exact ⟨[182], rfl, by decide⟩

theorem piece_any (v : Int) (w : World) (hv : -9223372036854775808 ≤ v ∧ v ≤ 9223372036854775807) : Calls Try.prog 13 #[.int .i64 v] w (PiecePost w) := by
  obtain ⟨k, hk⟩ : ∃ k, v % 16777216 = k := ⟨_, rfl⟩
  have hk0 : 0 ≤ k ∧ k < 16777216 := by omega
  have happ := app_str
  go_enter Try.func13, Try.ntmps13
  go_wp2_with fail
  refine (place_any v 16777216 _ (by omega) (by omega) hv.1 hv.2).mono ?_
  rw [hk]
  rintro e w1 ⟨rfl, rfl⟩
  clear hk
  go_wp2_with fail
  refine (word_any _ _ (by omega)).mono ?_
  rintro e w1 ⟨s1, hs1, rfl, hb1⟩
  go_wp2_with fail
  refine (word_any _ _ (by omega)).mono ?_
  rintro e w2 ⟨s2, hs2, rfl, hb2⟩
  go_wp2_with fail
  refine (word_any _ _ (by omega)).mono ?_
  rintro e w3 ⟨s3, hs3, rfl, hb3⟩
  obtain ⟨s, hs, hsl⟩ := piece_in s1 s2 s3 hs1 hs2 hs3 (k % 12) (by omega) (by omega)
  have hidx := run_index_arr 49 12 Try.underlying49 _ (k % 12) _ (by omega) (by omega) hs
  have HS := Lib.hid hs
  clear hs
  go_wp2_with fail
  go_ret
  exact ⟨s, hsl, rfl, (hb1.trans (hb2.mono hb1.size)).trans (hb3.mono (Nat.le_trans hb1.size hb2.size))⟩

/-- Commands of the kind that Cmds makes. -/
def Mild (c : C) : Prop := Good c ∧ c.s.length ≤ 20 ∧ c.t.length ≤ 20

def CmdI (w0 : World) (len : Nat) (vm vi : Value) (wr : World) : Prop :=
  ∃ (i : Nat) (cs : List C), i ≤ len ∧ i ≤ 120 ∧ vi = .int .i64 i ∧ cs.length = i ∧ (∀ c ∈ cs, Mild c) ∧ wr.ownsRow w0.heap.size 35 6 vm cs.length (cellsOf cs) ∧ Below w0.heap.size w0 wr

theorem mild_1 (A : Int) (s : List UInt8) (hA : 0 ≤ A ∧ A ≤ 65535) (hs : s.length ≤ 20) : Mild ⟨1, A, 0, 0, s, []⟩ := by
  have hp : partsOf 1 = [.a, .t] := by decide
  exact ⟨⟨by simp, by simp, ⟨hA.1, hA.2, by simp, by simp, by simp, by simp, by simp; omega, by simp⟩, by simp [hp, Part.copy]⟩, hs, by simp⟩

theorem mild_2 (A : Int) (B : Int) (hA : 0 ≤ A ∧ A ≤ 65535) (hB : 0 ≤ B ∧ B ≤ 65535) : Mild ⟨2, A, B, 0, [], []⟩ := by
  have hp : partsOf 2 = [.a, .b] := by decide
  exact ⟨⟨by simp, by simp, ⟨hA.1, hA.2, hB.1, hB.2, by simp, by simp, by simp, by simp⟩, by simp [hp, Part.copy]⟩, by simp, by simp⟩

theorem mild_3 (A : Int) (B : Int) (s : List UInt8) (hA : 0 ≤ A ∧ A ≤ 65535) (hB : 0 ≤ B ∧ B ≤ 65535) (hs : s.length ≤ 20) : Mild ⟨3, A, B, 0, s, []⟩ := by
  have hp : partsOf 3 = [.a, .b, .t] := by decide
  exact ⟨⟨by simp, by simp, ⟨hA.1, hA.2, hB.1, hB.2, by simp, by simp, by simp; omega, by simp⟩, by simp [hp, Part.copy]⟩, hs, by simp⟩

theorem mild_4   : Mild ⟨4, 0, 0, 0, [], []⟩ := by
  have hp : partsOf 4 = [] := by decide
  exact ⟨⟨by simp, by simp, ⟨by simp, by simp, by simp, by simp, by simp, by simp, by simp, by simp⟩, by simp [hp, Part.copy]⟩, by simp, by simp⟩

theorem mild_5   : Mild ⟨5, 0, 0, 0, [], []⟩ := by
  have hp : partsOf 5 = [] := by decide
  exact ⟨⟨by simp, by simp, ⟨by simp, by simp, by simp, by simp, by simp, by simp, by simp, by simp⟩, by simp [hp, Part.copy]⟩, by simp, by simp⟩

theorem mild_6 (A : Int) (B : Int) (hA : 0 ≤ A ∧ A ≤ 65535) (hB : 0 ≤ B ∧ B ≤ 65535) : Mild ⟨6, A, B, 0, [], []⟩ := by
  have hp : partsOf 6 = [.a, .b] := by decide
  exact ⟨⟨by simp, by simp, ⟨hA.1, hA.2, hB.1, hB.2, by simp, by simp, by simp, by simp⟩, by simp [hp, Part.copy]⟩, by simp, by simp⟩

theorem mild_7 (s : List UInt8) (hs : s.length ≤ 20) : Mild ⟨7, 0, 0, 0, s, []⟩ := by
  have hp : partsOf 7 = [.t] := by decide
  exact ⟨⟨by simp, by simp, ⟨by simp, by simp, by simp, by simp, by simp, by simp, by simp; omega, by simp⟩, by simp [hp, Part.copy]⟩, hs, by simp⟩

theorem mild_8 (s : List UInt8) (hs : s.length ≤ 20) : Mild ⟨8, 0, 0, 0, s, []⟩ := by
  have hp : partsOf 8 = [.t] := by decide
  exact ⟨⟨by simp, by simp, ⟨by simp, by simp, by simp, by simp, by simp, by simp, by simp; omega, by simp⟩, by simp [hp, Part.copy]⟩, hs, by simp⟩

theorem mild_9 (s : List UInt8) (hs : s.length ≤ 20) : Mild ⟨9, 0, 0, 0, s, []⟩ := by
  have hp : partsOf 9 = [.t] := by decide
  exact ⟨⟨by simp, by simp, ⟨by simp, by simp, by simp, by simp, by simp, by simp, by simp; omega, by simp⟩, by simp [hp, Part.copy]⟩, hs, by simp⟩

theorem mild_10 (A : Int) (B : Int) (D : Int) (hA : 0 ≤ A ∧ A ≤ 65535) (hB : 0 ≤ B ∧ B ≤ 65535) (hD : 0 ≤ D ∧ D ≤ 255) : Mild ⟨10, A, B, D, [], []⟩ := by
  have hp : partsOf 10 = [.a, .b, .l] := by decide
  exact ⟨⟨by simp, by simp, ⟨hA.1, hA.2, hB.1, hB.2, hD.1, hD.2, by simp, by simp⟩, by simp [hp, Part.copy]⟩, by simp, by simp⟩

theorem mild_11 (B : Int) (D : Int) (s : List UInt8) (hB : 0 ≤ B ∧ B ≤ 65535) (hD : 0 ≤ D ∧ D ≤ 255) (hs : s.length ≤ 20) : Mild ⟨11, 0, B, D, s, []⟩ := by
  have hp : partsOf 11 = [.l, .b, .t] := by decide
  exact ⟨⟨by simp, by simp, ⟨by simp, by simp, hB.1, hB.2, hD.1, hD.2, by simp; omega, by simp⟩, by simp [hp, Part.copy]⟩, hs, by simp⟩

theorem mild_12 (s : List UInt8) (t : List UInt8) (hs : s.length ≤ 20) (ht : t.length ≤ 20) : Mild ⟨12, 0, 0, 0, s, t⟩ := by
  have hp : partsOf 12 = [.t, .u] := by decide
  exact ⟨⟨by simp, by simp, ⟨by simp, by simp, by simp, by simp, by simp, by simp, by simp; omega, by simp; omega⟩, by simp [hp, Part.copy]⟩, hs, ht⟩

theorem mild_13   : Mild ⟨13, 0, 0, 0, [], []⟩ := by
  have hp : partsOf 13 = [] := by decide
  exact ⟨⟨by simp, by simp, ⟨by simp, by simp, by simp, by simp, by simp, by simp, by simp, by simp⟩, by simp [hp, Part.copy]⟩, by simp, by simp⟩
theorem cell_new_add (W : World) (l : List Value) (T n : Nat) (hn : n = W.heap.size) : ∀ (j : Nat) u, l[j]? = some u → (W.alloc (.cells l.toArray T)).cell? ((⟨n, 0, none⟩ : Addr).add j) = some u := by
  intro j u hu
  subst hn
  rw [Addr.add_lit, Nat.zero_add, cell_alloc_new]
  exact hu
theorem cmd_bel {w wr W w5 : World} {v : Value} {n : Nat} {xs : List Value} (hbw : Below w.heap.size w wr) (hown : wr.ownsRow w.heap.size 35 6 v n xs) (hB : Below wr.heap.size wr W) (hg : W.grownBy w5 v.ownBlock) : Below w.heap.size w w5 :=
  (hbw.trans (hB.mono hbw.size)).grown hg (Nat.le_trans hbw.size hB.size) (fun k hk => (hown.lt k hk).1)
theorem cmds_rel {w w5 : World} {len i : Nat} {cs : List C} {c : C} {v : Value} (hi1 : i ≤ len) (hi2 : i ≤ 120) (h1 : i < len) (h2 : i < 120) (hcl : cs.length = i) (hcs : ∀ c ∈ cs, Mild c) (hm : Mild c)
    (hown : w5.ownsRow w.heap.size 35 6 v (cs.length + 1) (cellsOf cs ++ c.cells)) (hb : Below w.heap.size w w5) : CmdI w len v (.int .i64 ((i : Int) + 1)) w5 := by
  refine ⟨i + 1, cs ++ [c], by omega, by omega, by go_num, by simp [hcl], ?_, ?_, hb⟩
  · intro d hd
    rcases List.mem_append.1 hd with hd | hd
    · exact hcs d hd
    · rw [List.mem_singleton] at hd; rw [hd]; exact hm
  · rw [List.length_append, cellsOf_snoc]; exact hown

def CmdsPost (w : World) (e : Ending) (w' : World) : Prop := ∃ v cs, e = .returned v ∧ cs.length ≤ 120 ∧ (∀ c ∈ cs, Mild c) ∧ w'.ownsRow w.heap.size 35 6 v cs.length (cellsOf cs) ∧ Below w.heap.size w w'

set_option maxRecDepth 100000 in
set_option maxHeartbeats 20000000 in
theorem cmds_any (a : Option Addr) (len cap : Nat) (zs : List Int) (w : World) (hm : cap ≤ 9223372036854775807) (hlen : len ≤ cap) (hz : ∀ (i : Nat), i < len → ∃ g off, a = some ⟨g, off, none⟩ ∧ w.cell? ⟨g, off + i, none⟩ = some (.int .i64 (zs.getD i 0)))
    (hw : ∀ (i : Nat), i < len → -9223372036854775808 ≤ zs.getD i 0 ∧ zs.getD i 0 ≤ 9223372036854775807) :
    Calls Try.prog 7 #[.slice a len cap, .int .i64 300] w (CmdsPost w) := by
  obtain ⟨i0, hi0, hz0, hz1, hz2'⟩ := info_parts Try.info35
  go_enter Try.func7, Try.ntmps7
  go_wp2_with fail
  go_loopw [5, 6] (fun vm vi wr => CmdI w len vm vi wr) (fun _ vi _ => 120 - (intOf vi).toNat)
  case atStart => exact ⟨0, [], Nat.zero_le _, Nat.zero_le _, rfl, rfl, by simp, World.ownsRow_nil _ _ _ _, Below.refl _ _⟩
  case round =>
    obtain ⟨i, cs, hi1, hi2, rfl, hcl, hcs, hown, hbw⟩ := hrel
    have HCL := Lib.hid hcl
    clear hcl
    by_cases h1 : i < len
    · by_cases h2 : i < 120
      · obtain ⟨g, off, rfl, hc⟩ := hz i h1
        have hc' : wr.cell? ⟨g, off + i, none⟩ = some (.int .i64 (zs.getD i 0)) := by
          rw [hbw.cell (p := ⟨g, off + i, none⟩) (World.block_lt_of_cell? w _ hc)]; exact hc
        have hwi := hw i h1
        obtain ⟨x, hx⟩ : ∃ x, zs.getD i 0 = x := ⟨_, rfl⟩
        rw [hx] at hc' hwi
        clear hc hx hz hw
        have h2' : (i : Int) < 120 := by omega
        obtain ⟨k, hk⟩ : ∃ k, x % 1099511627776 = k := ⟨_, rfl⟩
        have hk0 : 0 ≤ k ∧ k < 1099511627776 := by omega
        go_wp2_with fail
        refine (place_any x 1099511627776 _ (by omega) (by omega) hwi.1 hwi.2).mono ?_
        rw [hk]
        rintro e w1 ⟨rfl, rfl⟩
        clear hk hc'
        by_cases t0 : k % 32 < 9
        · go_wp2_with fail
          refine (piece_any _ _ (by omega)).mono ?_
          rintro e w2 ⟨s, hs, rfl, hb2⟩
          have hz2 : wr.heap.size + 1 ≤ w2.heap.size := by have := hb2.size; simpa using this
          have hx2 : w2.heap[wr.heap.size]? = some (.cells #[.int .i64 0, .int .i64 (k / 32 % 302), .int .i64 0, .int .i64 0, .string { data := #[] }, .string { data := #[] }] 35 (0, 0)) := by rw [hb2.block _ (by simp), heap_alloc_new]
          have hcx : ∀ (j : Nat) u, ([.int .i64 0, .int .i64 (k / 32 % 302), .int .i64 0, .int .i64 0, .string { data := #[] }, .string { data := #[] }] : List Value)[j]? = some u → w2.cell? ⟨wr.heap.size, j, none⟩ = some u := fun j u hu => by simp [World.cell?, hx2]; exact hu
          have x0 := hcx 0 _ rfl
          have x1 := hcx 1 _ rfl
          have x2 := hcx 2 _ rfl
          have x3 := hcx 3 _ rfl
          have x4 := hcx 4 _ rfl
          have x5 := hcx 5 _ rfl
          have xf : ∀ j, w2.frozen? ⟨wr.heap.size, j, none⟩ = false := fun j => by simp [World.frozen?, hx2]
          clear hcx
          go_wp2_with (at_builtin; go_must (refine wpList_append_own _ rfl _ _ 23 rfl w.heap.size 35 i0 _ 6 64 Try.underlying23 hi0 hz0 hz1 hz2' rfl (by decide) u5 cs.length (cellsOf cs) rfl ?c0 _ 1 1 (C.cells ⟨1, k / 32 % 302, 0, 0, s, []⟩) rfl rfl ?c1 ?c2 ?c3 ?c4 ?c5 ?_))
          case c0 => exact below_kept hown ((((((Below.refl wr.heap.size wr).alloc (Nat.le_refl _) _).trans (hb2.mono (by simp))).setCell (p := ⟨wr.heap.size, 0, none⟩) (Nat.le_refl _) _).setCell (p := ⟨wr.heap.size, 4, none⟩) (Nat.le_refl _) _).alloc (by simp; omega) _)
          case c1 => exact cell_new_add _ _ 35 _ (by simp)
          case c2 => exact C.cells_oneCell _
          case c3 => have := HCL.out; unfold maxLen; omega
          case c4 => have := HCL.out; omega
          case c5 => have := hbw.size; simp; omega
          intro v' w9 hown9 hg9 _
          have hbz := cmd_bel hbw hown ((((((Below.refl wr.heap.size wr).alloc (Nat.le_refl _) _).trans (hb2.mono (by simp))).setCell (p := ⟨wr.heap.size, 0, none⟩) (Nat.le_refl _) _).setCell (p := ⟨wr.heap.size, 4, none⟩) (Nat.le_refl _) _).alloc (by simp; omega) _) hg9
          have hmild := mild_1 (k / 32 % 302) s (by omega) (by omega)
          clear x0 x1 x2 x3 x4 x5 xf
          go_wp2_with fail
          go_roundw
          case rel => exact cmds_rel hi1 hi2 h1 h2 HCL.out hcs hmild hown9 hbz
          case measure => simp [intOf]; omega
        by_cases t0 : 9 ≤ k % 32 ∧ k % 32 < 14
        · obtain ⟨t1, t2⟩ := t0
          go_wp2_with (at_builtin; go_must (refine wpList_append_own _ rfl _ _ 23 rfl w.heap.size 35 i0 _ 6 64 Try.underlying23 hi0 hz0 hz1 hz2' rfl (by decide) u5 cs.length (cellsOf cs) rfl ?c0 _ 1 1 (C.cells ⟨2, k / 32 % 302, k / 32 / 1000 % 6, 0, [], []⟩) rfl rfl ?c1 ?c2 ?c3 ?c4 ?c5 ?_))
          case c0 => exact below_kept hown (((Below.refl wr.heap.size wr).alloc (Nat.le_refl _) _).alloc (by simp) _)
          case c1 => exact cell_new_add _ _ 35 _ (by simp)
          case c2 => exact C.cells_oneCell _
          case c3 => have := HCL.out; unfold maxLen; omega
          case c4 => have := HCL.out; omega
          case c5 => have := hbw.size; simp; omega
          intro v' w9 hown9 hg9 _
          have hbz := cmd_bel hbw hown (((Below.refl wr.heap.size wr).alloc (Nat.le_refl _) _).alloc (by simp) _) hg9
          have hmild := mild_2 (k / 32 % 302) (k / 32 / 1000 % 6) (by omega) (by omega)
          clear hg9
          go_wp2_with fail
          go_roundw
          case rel => exact cmds_rel hi1 hi2 h1 h2 HCL.out hcs hmild hown9 hbz
          case measure => simp [intOf]; omega
        by_cases t0 : 14 ≤ k % 32 ∧ k % 32 < 18
        · obtain ⟨t1, t2⟩ := t0
          go_wp2_with fail
          refine (piece_any _ _ (by omega)).mono ?_
          rintro e w2 ⟨s, hs, rfl, hb2⟩
          have hz2 : wr.heap.size + 1 ≤ w2.heap.size := by have := hb2.size; simpa using this
          have hx2 : w2.heap[wr.heap.size]? = some (.cells #[.int .i64 0, .int .i64 (k / 32 % 302), .int .i64 0, .int .i64 0, .string { data := #[] }, .string { data := #[] }] 35 (0, 0)) := by rw [hb2.block _ (by simp), heap_alloc_new]
          have hcx : ∀ (j : Nat) u, ([.int .i64 0, .int .i64 (k / 32 % 302), .int .i64 0, .int .i64 0, .string { data := #[] }, .string { data := #[] }] : List Value)[j]? = some u → w2.cell? ⟨wr.heap.size, j, none⟩ = some u := fun j u hu => by simp [World.cell?, hx2]; exact hu
          have x0 := hcx 0 _ rfl
          have x1 := hcx 1 _ rfl
          have x2 := hcx 2 _ rfl
          have x3 := hcx 3 _ rfl
          have x4 := hcx 4 _ rfl
          have x5 := hcx 5 _ rfl
          have xf : ∀ j, w2.frozen? ⟨wr.heap.size, j, none⟩ = false := fun j => by simp [World.frozen?, hx2]
          clear hcx
          go_wp2_with (at_builtin; go_must (refine wpList_append_own _ rfl _ _ 23 rfl w.heap.size 35 i0 _ 6 64 Try.underlying23 hi0 hz0 hz1 hz2' rfl (by decide) u5 cs.length (cellsOf cs) rfl ?c0 _ 1 1 (C.cells ⟨3, k / 32 % 302, k / 32 / 1000 % 7, 0, s, []⟩) rfl rfl ?c1 ?c2 ?c3 ?c4 ?c5 ?_))
          case c0 => exact below_kept hown (((((((Below.refl wr.heap.size wr).alloc (Nat.le_refl _) _).trans (hb2.mono (by simp))).setCell (p := ⟨wr.heap.size, 0, none⟩) (Nat.le_refl _) _).setCell (p := ⟨wr.heap.size, 2, none⟩) (Nat.le_refl _) _).setCell (p := ⟨wr.heap.size, 4, none⟩) (Nat.le_refl _) _).alloc (by simp; omega) _)
          case c1 => exact cell_new_add _ _ 35 _ (by simp)
          case c2 => exact C.cells_oneCell _
          case c3 => have := HCL.out; unfold maxLen; omega
          case c4 => have := HCL.out; omega
          case c5 => have := hbw.size; simp; omega
          intro v' w9 hown9 hg9 _
          have hbz := cmd_bel hbw hown (((((((Below.refl wr.heap.size wr).alloc (Nat.le_refl _) _).trans (hb2.mono (by simp))).setCell (p := ⟨wr.heap.size, 0, none⟩) (Nat.le_refl _) _).setCell (p := ⟨wr.heap.size, 2, none⟩) (Nat.le_refl _) _).setCell (p := ⟨wr.heap.size, 4, none⟩) (Nat.le_refl _) _).alloc (by simp; omega) _) hg9
          have hmild := mild_3 (k / 32 % 302) (k / 32 / 1000 % 7) s (by omega) (by omega) (by omega)
          clear x0 x1 x2 x3 x4 x5 xf
          go_wp2_with fail
          go_roundw
          case rel => exact cmds_rel hi1 hi2 h1 h2 HCL.out hcs hmild hown9 hbz
          case measure => simp [intOf]; omega
        by_cases t0 : 18 ≤ k % 32 ∧ k % 32 < 20
        · obtain ⟨t1, t2⟩ := t0
          go_wp2_with (at_builtin; go_must (refine wpList_append_own _ rfl _ _ 23 rfl w.heap.size 35 i0 _ 6 64 Try.underlying23 hi0 hz0 hz1 hz2' rfl (by decide) u5 cs.length (cellsOf cs) rfl ?c0 _ 1 1 (C.cells ⟨4, 0, 0, 0, [], []⟩) rfl rfl ?c1 ?c2 ?c3 ?c4 ?c5 ?_))
          case c0 => exact below_kept hown (((Below.refl wr.heap.size wr).alloc (Nat.le_refl _) _).alloc (by simp) _)
          case c1 => exact cell_new_add _ _ 35 _ (by simp)
          case c2 => exact C.cells_oneCell _
          case c3 => have := HCL.out; unfold maxLen; omega
          case c4 => have := HCL.out; omega
          case c5 => have := hbw.size; simp; omega
          intro v' w9 hown9 hg9 _
          have hbz := cmd_bel hbw hown (((Below.refl wr.heap.size wr).alloc (Nat.le_refl _) _).alloc (by simp) _) hg9
          have hmild := mild_4
          clear hg9
          go_wp2_with fail
          go_roundw
          case rel => exact cmds_rel hi1 hi2 h1 h2 HCL.out hcs hmild hown9 hbz
          case measure => simp [intOf]; omega
        by_cases t0 : k % 32 = 20
        · go_wp2_with (at_builtin; go_must (refine wpList_append_own _ rfl _ _ 23 rfl w.heap.size 35 i0 _ 6 64 Try.underlying23 hi0 hz0 hz1 hz2' rfl (by decide) u5 cs.length (cellsOf cs) rfl ?c0 _ 1 1 (C.cells ⟨5, 0, 0, 0, [], []⟩) rfl rfl ?c1 ?c2 ?c3 ?c4 ?c5 ?_))
          case c0 => exact below_kept hown (((Below.refl wr.heap.size wr).alloc (Nat.le_refl _) _).alloc (by simp) _)
          case c1 => exact cell_new_add _ _ 35 _ (by simp)
          case c2 => exact C.cells_oneCell _
          case c3 => have := HCL.out; unfold maxLen; omega
          case c4 => have := HCL.out; omega
          case c5 => have := hbw.size; simp; omega
          intro v' w9 hown9 hg9 _
          have hbz := cmd_bel hbw hown (((Below.refl wr.heap.size wr).alloc (Nat.le_refl _) _).alloc (by simp) _) hg9
          have hmild := mild_5
          clear hg9
          go_wp2_with fail
          go_roundw
          case rel => exact cmds_rel hi1 hi2 h1 h2 HCL.out hcs hmild hown9 hbz
          case measure => simp [intOf]; omega
        by_cases t0 : k % 32 = 21
        · go_wp2_with (at_builtin; go_must (refine wpList_append_own _ rfl _ _ 23 rfl w.heap.size 35 i0 _ 6 64 Try.underlying23 hi0 hz0 hz1 hz2' rfl (by decide) u5 cs.length (cellsOf cs) rfl ?c0 _ 1 1 (C.cells ⟨6, k / 32 % 302, k / 32 / 1000 % 9, 0, [], []⟩) rfl rfl ?c1 ?c2 ?c3 ?c4 ?c5 ?_))
          case c0 => exact below_kept hown (((Below.refl wr.heap.size wr).alloc (Nat.le_refl _) _).alloc (by simp) _)
          case c1 => exact cell_new_add _ _ 35 _ (by simp)
          case c2 => exact C.cells_oneCell _
          case c3 => have := HCL.out; unfold maxLen; omega
          case c4 => have := HCL.out; omega
          case c5 => have := hbw.size; simp; omega
          intro v' w9 hown9 hg9 _
          have hbz := cmd_bel hbw hown (((Below.refl wr.heap.size wr).alloc (Nat.le_refl _) _).alloc (by simp) _) hg9
          have hmild := mild_6 (k / 32 % 302) (k / 32 / 1000 % 9) (by omega) (by omega)
          clear hg9
          go_wp2_with fail
          go_roundw
          case rel => exact cmds_rel hi1 hi2 h1 h2 HCL.out hcs hmild hown9 hbz
          case measure => simp [intOf]; omega
        by_cases t0 : k % 32 = 22
        · go_wp2_with fail
          refine (word_any _ _ (by omega)).mono ?_
          rintro e w2 ⟨s, hs, rfl, hb2⟩
          have hz2 : wr.heap.size + 1 ≤ w2.heap.size := by have := hb2.size; simpa using this
          have hx2 : w2.heap[wr.heap.size]? = some (.cells #[.int .i64 0, .int .i64 (k / 32 % 302), .int .i64 0, .int .i64 0, .string { data := #[] }, .string { data := #[] }] 35 (0, 0)) := by rw [hb2.block _ (by simp), heap_alloc_new]
          have hcx : ∀ (j : Nat) u, ([.int .i64 0, .int .i64 (k / 32 % 302), .int .i64 0, .int .i64 0, .string { data := #[] }, .string { data := #[] }] : List Value)[j]? = some u → w2.cell? ⟨wr.heap.size, j, none⟩ = some u := fun j u hu => by simp [World.cell?, hx2]; exact hu
          have x0 := hcx 0 _ rfl
          have x1 := hcx 1 _ rfl
          have x2 := hcx 2 _ rfl
          have x3 := hcx 3 _ rfl
          have x4 := hcx 4 _ rfl
          have x5 := hcx 5 _ rfl
          have xf : ∀ j, w2.frozen? ⟨wr.heap.size, j, none⟩ = false := fun j => by simp [World.frozen?, hx2]
          clear hcx
          go_wp2_with (at_builtin; go_must (refine wpList_append_own _ rfl _ _ 23 rfl w.heap.size 35 i0 _ 6 64 Try.underlying23 hi0 hz0 hz1 hz2' rfl (by decide) u5 cs.length (cellsOf cs) rfl ?c0 _ 1 1 (C.cells ⟨7, 0, 0, 0, s, []⟩) rfl rfl ?c1 ?c2 ?c3 ?c4 ?c5 ?_))
          case c0 => exact below_kept hown (((((((Below.refl wr.heap.size wr).alloc (Nat.le_refl _) _).trans (hb2.mono (by simp))).setCell (p := ⟨wr.heap.size, 0, none⟩) (Nat.le_refl _) _).setCell (p := ⟨wr.heap.size, 4, none⟩) (Nat.le_refl _) _).setCell (p := ⟨wr.heap.size, 1, none⟩) (Nat.le_refl _) _).alloc (by simp; omega) _)
          case c1 => exact cell_new_add _ _ 35 _ (by simp)
          case c2 => exact C.cells_oneCell _
          case c3 => have := HCL.out; unfold maxLen; omega
          case c4 => have := HCL.out; omega
          case c5 => have := hbw.size; simp; omega
          intro v' w9 hown9 hg9 _
          have hbz := cmd_bel hbw hown (((((((Below.refl wr.heap.size wr).alloc (Nat.le_refl _) _).trans (hb2.mono (by simp))).setCell (p := ⟨wr.heap.size, 0, none⟩) (Nat.le_refl _) _).setCell (p := ⟨wr.heap.size, 4, none⟩) (Nat.le_refl _) _).setCell (p := ⟨wr.heap.size, 1, none⟩) (Nat.le_refl _) _).alloc (by simp; omega) _) hg9
          have hmild := mild_7 s (by omega)
          clear x0 x1 x2 x3 x4 x5 xf
          go_wp2_with fail
          go_roundw
          case rel => exact cmds_rel hi1 hi2 h1 h2 HCL.out hcs hmild hown9 hbz
          case measure => simp [intOf]; omega
        by_cases t0 : k % 32 = 23
        · go_wp2_with fail
          refine (word_any _ _ (by omega)).mono ?_
          rintro e w2 ⟨s, hs, rfl, hb2⟩
          have hz2 : wr.heap.size + 1 ≤ w2.heap.size := by have := hb2.size; simpa using this
          have hx2 : w2.heap[wr.heap.size]? = some (.cells #[.int .i64 0, .int .i64 (k / 32 % 302), .int .i64 0, .int .i64 0, .string { data := #[] }, .string { data := #[] }] 35 (0, 0)) := by rw [hb2.block _ (by simp), heap_alloc_new]
          have hcx : ∀ (j : Nat) u, ([.int .i64 0, .int .i64 (k / 32 % 302), .int .i64 0, .int .i64 0, .string { data := #[] }, .string { data := #[] }] : List Value)[j]? = some u → w2.cell? ⟨wr.heap.size, j, none⟩ = some u := fun j u hu => by simp [World.cell?, hx2]; exact hu
          have x0 := hcx 0 _ rfl
          have x1 := hcx 1 _ rfl
          have x2 := hcx 2 _ rfl
          have x3 := hcx 3 _ rfl
          have x4 := hcx 4 _ rfl
          have x5 := hcx 5 _ rfl
          have xf : ∀ j, w2.frozen? ⟨wr.heap.size, j, none⟩ = false := fun j => by simp [World.frozen?, hx2]
          clear hcx
          go_wp2_with (at_builtin; go_must (refine wpList_append_own _ rfl _ _ 23 rfl w.heap.size 35 i0 _ 6 64 Try.underlying23 hi0 hz0 hz1 hz2' rfl (by decide) u5 cs.length (cellsOf cs) rfl ?c0 _ 1 1 (C.cells ⟨8, 0, 0, 0, s, []⟩) rfl rfl ?c1 ?c2 ?c3 ?c4 ?c5 ?_))
          case c0 => exact below_kept hown (((((((Below.refl wr.heap.size wr).alloc (Nat.le_refl _) _).trans (hb2.mono (by simp))).setCell (p := ⟨wr.heap.size, 0, none⟩) (Nat.le_refl _) _).setCell (p := ⟨wr.heap.size, 4, none⟩) (Nat.le_refl _) _).setCell (p := ⟨wr.heap.size, 1, none⟩) (Nat.le_refl _) _).alloc (by simp; omega) _)
          case c1 => exact cell_new_add _ _ 35 _ (by simp)
          case c2 => exact C.cells_oneCell _
          case c3 => have := HCL.out; unfold maxLen; omega
          case c4 => have := HCL.out; omega
          case c5 => have := hbw.size; simp; omega
          intro v' w9 hown9 hg9 _
          have hbz := cmd_bel hbw hown (((((((Below.refl wr.heap.size wr).alloc (Nat.le_refl _) _).trans (hb2.mono (by simp))).setCell (p := ⟨wr.heap.size, 0, none⟩) (Nat.le_refl _) _).setCell (p := ⟨wr.heap.size, 4, none⟩) (Nat.le_refl _) _).setCell (p := ⟨wr.heap.size, 1, none⟩) (Nat.le_refl _) _).alloc (by simp; omega) _) hg9
          have hmild := mild_8 s (by omega)
          clear x0 x1 x2 x3 x4 x5 xf
          go_wp2_with fail
          go_roundw
          case rel => exact cmds_rel hi1 hi2 h1 h2 HCL.out hcs hmild hown9 hbz
          case measure => simp [intOf]; omega
        by_cases t0 : k % 32 = 24
        · go_wp2_with fail
          refine (word_any _ _ (by omega)).mono ?_
          rintro e w2 ⟨s, hs, rfl, hb2⟩
          have hz2 : wr.heap.size + 1 ≤ w2.heap.size := by have := hb2.size; simpa using this
          have hx2 : w2.heap[wr.heap.size]? = some (.cells #[.int .i64 0, .int .i64 (k / 32 % 302), .int .i64 0, .int .i64 0, .string { data := #[] }, .string { data := #[] }] 35 (0, 0)) := by rw [hb2.block _ (by simp), heap_alloc_new]
          have hcx : ∀ (j : Nat) u, ([.int .i64 0, .int .i64 (k / 32 % 302), .int .i64 0, .int .i64 0, .string { data := #[] }, .string { data := #[] }] : List Value)[j]? = some u → w2.cell? ⟨wr.heap.size, j, none⟩ = some u := fun j u hu => by simp [World.cell?, hx2]; exact hu
          have x0 := hcx 0 _ rfl
          have x1 := hcx 1 _ rfl
          have x2 := hcx 2 _ rfl
          have x3 := hcx 3 _ rfl
          have x4 := hcx 4 _ rfl
          have x5 := hcx 5 _ rfl
          have xf : ∀ j, w2.frozen? ⟨wr.heap.size, j, none⟩ = false := fun j => by simp [World.frozen?, hx2]
          clear hcx
          go_wp2_with (at_builtin; go_must (refine wpList_append_own _ rfl _ _ 23 rfl w.heap.size 35 i0 _ 6 64 Try.underlying23 hi0 hz0 hz1 hz2' rfl (by decide) u5 cs.length (cellsOf cs) rfl ?c0 _ 1 1 (C.cells ⟨9, 0, 0, 0, s, []⟩) rfl rfl ?c1 ?c2 ?c3 ?c4 ?c5 ?_))
          case c0 => exact below_kept hown (((((((Below.refl wr.heap.size wr).alloc (Nat.le_refl _) _).trans (hb2.mono (by simp))).setCell (p := ⟨wr.heap.size, 0, none⟩) (Nat.le_refl _) _).setCell (p := ⟨wr.heap.size, 4, none⟩) (Nat.le_refl _) _).setCell (p := ⟨wr.heap.size, 1, none⟩) (Nat.le_refl _) _).alloc (by simp; omega) _)
          case c1 => exact cell_new_add _ _ 35 _ (by simp)
          case c2 => exact C.cells_oneCell _
          case c3 => have := HCL.out; unfold maxLen; omega
          case c4 => have := HCL.out; omega
          case c5 => have := hbw.size; simp; omega
          intro v' w9 hown9 hg9 _
          have hbz := cmd_bel hbw hown (((((((Below.refl wr.heap.size wr).alloc (Nat.le_refl _) _).trans (hb2.mono (by simp))).setCell (p := ⟨wr.heap.size, 0, none⟩) (Nat.le_refl _) _).setCell (p := ⟨wr.heap.size, 4, none⟩) (Nat.le_refl _) _).setCell (p := ⟨wr.heap.size, 1, none⟩) (Nat.le_refl _) _).alloc (by simp; omega) _) hg9
          have hmild := mild_9 s (by omega)
          clear x0 x1 x2 x3 x4 x5 xf
          go_wp2_with fail
          go_roundw
          case rel => exact cmds_rel hi1 hi2 h1 h2 HCL.out hcs hmild hown9 hbz
          case measure => simp [intOf]; omega
        by_cases t0 : 25 ≤ k % 32 ∧ k % 32 < 27
        · obtain ⟨t1, t2⟩ := t0
          go_wp2_with (at_builtin; go_must (refine wpList_append_own _ rfl _ _ 23 rfl w.heap.size 35 i0 _ 6 64 Try.underlying23 hi0 hz0 hz1 hz2' rfl (by decide) u5 cs.length (cellsOf cs) rfl ?c0 _ 1 1 (C.cells ⟨10, k / 32 % 302, k / 32 / 1000 % 30, k / 32 / 30000 % 3, [], []⟩) rfl rfl ?c1 ?c2 ?c3 ?c4 ?c5 ?_))
          case c0 => exact below_kept hown (((Below.refl wr.heap.size wr).alloc (Nat.le_refl _) _).alloc (by simp) _)
          case c1 => exact cell_new_add _ _ 35 _ (by simp)
          case c2 => exact C.cells_oneCell _
          case c3 => have := HCL.out; unfold maxLen; omega
          case c4 => have := HCL.out; omega
          case c5 => have := hbw.size; simp; omega
          intro v' w9 hown9 hg9 _
          have hbz := cmd_bel hbw hown (((Below.refl wr.heap.size wr).alloc (Nat.le_refl _) _).alloc (by simp) _) hg9
          have hmild := mild_10 (k / 32 % 302) (k / 32 / 1000 % 30) (k / 32 / 30000 % 3) (by omega) (by omega) (by omega)
          clear hg9
          go_wp2_with fail
          go_roundw
          case rel => exact cmds_rel hi1 hi2 h1 h2 HCL.out hcs hmild hown9 hbz
          case measure => simp [intOf]; omega
        by_cases t0 : k % 32 = 27
        · go_wp2_with fail
          refine (word_any _ _ (by omega)).mono ?_
          rintro e w2 ⟨s, hs, rfl, hb2⟩
          have hz2 : wr.heap.size + 1 ≤ w2.heap.size := by have := hb2.size; simpa using this
          have hx2 : w2.heap[wr.heap.size]? = some (.cells #[.int .i64 0, .int .i64 (k / 32 % 302), .int .i64 0, .int .i64 0, .string { data := #[] }, .string { data := #[] }] 35 (0, 0)) := by rw [hb2.block _ (by simp), heap_alloc_new]
          have hcx : ∀ (j : Nat) u, ([.int .i64 0, .int .i64 (k / 32 % 302), .int .i64 0, .int .i64 0, .string { data := #[] }, .string { data := #[] }] : List Value)[j]? = some u → w2.cell? ⟨wr.heap.size, j, none⟩ = some u := fun j u hu => by simp [World.cell?, hx2]; exact hu
          have x0 := hcx 0 _ rfl
          have x1 := hcx 1 _ rfl
          have x2 := hcx 2 _ rfl
          have x3 := hcx 3 _ rfl
          have x4 := hcx 4 _ rfl
          have x5 := hcx 5 _ rfl
          have xf : ∀ j, w2.frozen? ⟨wr.heap.size, j, none⟩ = false := fun j => by simp [World.frozen?, hx2]
          clear hcx
          go_wp2_with (at_builtin; go_must (refine wpList_append_own _ rfl _ _ 23 rfl w.heap.size 35 i0 _ 6 64 Try.underlying23 hi0 hz0 hz1 hz2' rfl (by decide) u5 cs.length (cellsOf cs) rfl ?c0 _ 1 1 (C.cells ⟨11, 0, k / 32 % 12, k / 32 / 12 % 2, s, []⟩) rfl rfl ?c1 ?c2 ?c3 ?c4 ?c5 ?_))
          case c0 => exact below_kept hown (((((((((Below.refl wr.heap.size wr).alloc (Nat.le_refl _) _).trans (hb2.mono (by simp))).setCell (p := ⟨wr.heap.size, 0, none⟩) (Nat.le_refl _) _).setCell (p := ⟨wr.heap.size, 1, none⟩) (Nat.le_refl _) _).setCell (p := ⟨wr.heap.size, 2, none⟩) (Nat.le_refl _) _).setCell (p := ⟨wr.heap.size, 3, none⟩) (Nat.le_refl _) _).setCell (p := ⟨wr.heap.size, 4, none⟩) (Nat.le_refl _) _).alloc (by simp; omega) _)
          case c1 => exact cell_new_add _ _ 35 _ (by simp)
          case c2 => exact C.cells_oneCell _
          case c3 => have := HCL.out; unfold maxLen; omega
          case c4 => have := HCL.out; omega
          case c5 => have := hbw.size; simp; omega
          intro v' w9 hown9 hg9 _
          have hbz := cmd_bel hbw hown (((((((((Below.refl wr.heap.size wr).alloc (Nat.le_refl _) _).trans (hb2.mono (by simp))).setCell (p := ⟨wr.heap.size, 0, none⟩) (Nat.le_refl _) _).setCell (p := ⟨wr.heap.size, 1, none⟩) (Nat.le_refl _) _).setCell (p := ⟨wr.heap.size, 2, none⟩) (Nat.le_refl _) _).setCell (p := ⟨wr.heap.size, 3, none⟩) (Nat.le_refl _) _).setCell (p := ⟨wr.heap.size, 4, none⟩) (Nat.le_refl _) _).alloc (by simp; omega) _) hg9
          have hmild := mild_11 (k / 32 % 12) (k / 32 / 12 % 2) s (by omega) (by omega) (by omega)
          clear x0 x1 x2 x3 x4 x5 xf
          go_wp2_with fail
          go_roundw
          case rel => exact cmds_rel hi1 hi2 h1 h2 HCL.out hcs hmild hown9 hbz
          case measure => simp [intOf]; omega
        by_cases t0 : k % 32 = 28
        · go_wp2_with fail
          refine (word_any _ _ (by omega)).mono ?_
          rintro e w2 ⟨s, hs, rfl, hb2⟩
          have hz2 : wr.heap.size + 1 ≤ w2.heap.size := by have := hb2.size; simpa using this
          have hx2 : w2.heap[wr.heap.size]? = some (.cells #[.int .i64 0, .int .i64 (k / 32 % 302), .int .i64 0, .int .i64 0, .string { data := #[] }, .string { data := #[] }] 35 (0, 0)) := by rw [hb2.block _ (by simp), heap_alloc_new]
          go_wp2_with fail
          refine (word_any _ _ (by omega)).mono ?_
          rintro e w3 ⟨t, ht, rfl, hb3⟩
          have hz3 : wr.heap.size + 1 ≤ w3.heap.size := Nat.le_trans hz2 hb3.size
          have hx3 : w3.heap[wr.heap.size]? = some (.cells #[.int .i64 0, .int .i64 (k / 32 % 302), .int .i64 0, .int .i64 0, .string { data := #[] }, .string { data := #[] }] 35 (0, 0)) := by rw [hb3.block _ (by omega)]; exact hx2
          have hcx : ∀ (j : Nat) u, ([.int .i64 0, .int .i64 (k / 32 % 302), .int .i64 0, .int .i64 0, .string { data := #[] }, .string { data := #[] }] : List Value)[j]? = some u → w3.cell? ⟨wr.heap.size, j, none⟩ = some u := fun j u hu => by simp [World.cell?, hx3]; exact hu
          have x0 := hcx 0 _ rfl
          have x1 := hcx 1 _ rfl
          have x2 := hcx 2 _ rfl
          have x3 := hcx 3 _ rfl
          have x4 := hcx 4 _ rfl
          have x5 := hcx 5 _ rfl
          have xf : ∀ j, w3.frozen? ⟨wr.heap.size, j, none⟩ = false := fun j => by simp [World.frozen?, hx3]
          clear hcx
          go_wp2_with (at_builtin; go_must (refine wpList_append_own _ rfl _ _ 23 rfl w.heap.size 35 i0 _ 6 64 Try.underlying23 hi0 hz0 hz1 hz2' rfl (by decide) u5 cs.length (cellsOf cs) rfl ?c0 _ 1 1 (C.cells ⟨12, 0, 0, 0, s, t⟩) rfl rfl ?c1 ?c2 ?c3 ?c4 ?c5 ?_))
          case c0 => exact below_kept hown (((((((((Below.refl wr.heap.size wr).alloc (Nat.le_refl _) _).trans (hb2.mono (by simp))).trans (hb3.mono (by omega))).setCell (p := ⟨wr.heap.size, 0, none⟩) (Nat.le_refl _) _).setCell (p := ⟨wr.heap.size, 4, none⟩) (Nat.le_refl _) _).setCell (p := ⟨wr.heap.size, 5, none⟩) (Nat.le_refl _) _).setCell (p := ⟨wr.heap.size, 1, none⟩) (Nat.le_refl _) _).alloc (by simp; omega) _)
          case c1 => exact cell_new_add _ _ 35 _ (by simp)
          case c2 => exact C.cells_oneCell _
          case c3 => have := HCL.out; unfold maxLen; omega
          case c4 => have := HCL.out; omega
          case c5 => have := hbw.size; simp; omega
          intro v' w9 hown9 hg9 _
          have hbz := cmd_bel hbw hown (((((((((Below.refl wr.heap.size wr).alloc (Nat.le_refl _) _).trans (hb2.mono (by simp))).trans (hb3.mono (by omega))).setCell (p := ⟨wr.heap.size, 0, none⟩) (Nat.le_refl _) _).setCell (p := ⟨wr.heap.size, 4, none⟩) (Nat.le_refl _) _).setCell (p := ⟨wr.heap.size, 5, none⟩) (Nat.le_refl _) _).setCell (p := ⟨wr.heap.size, 1, none⟩) (Nat.le_refl _) _).alloc (by simp; omega) _) hg9
          have hmild := mild_12 s t (by omega) (by omega)
          clear x0 x1 x2 x3 x4 x5 xf
          go_wp2_with fail
          go_roundw
          case rel => exact cmds_rel hi1 hi2 h1 h2 HCL.out hcs hmild hown9 hbz
          case measure => simp [intOf]; omega
        have t0 : 29 ≤ k % 32 := by omega
        go_wp2_with (at_builtin; go_must (refine wpList_append_own _ rfl _ _ 23 rfl w.heap.size 35 i0 _ 6 64 Try.underlying23 hi0 hz0 hz1 hz2' rfl (by decide) u5 cs.length (cellsOf cs) rfl ?c0 _ 1 1 (C.cells ⟨13, 0, 0, 0, [], []⟩) rfl rfl ?c1 ?c2 ?c3 ?c4 ?c5 ?_))
        case c0 => exact below_kept hown (((Below.refl wr.heap.size wr).alloc (Nat.le_refl _) _).alloc (by simp) _)
        case c1 => exact cell_new_add _ _ 35 _ (by simp)
        case c2 => exact C.cells_oneCell _
        case c3 => have := HCL.out; unfold maxLen; omega
        case c4 => have := HCL.out; omega
        case c5 => have := hbw.size; simp; omega
        intro v' w9 hown9 hg9 _
        have hbz := cmd_bel hbw hown (((Below.refl wr.heap.size wr).alloc (Nat.le_refl _) _).alloc (by simp) _) hg9
        have hmild := mild_13
        clear hg9
        go_wp2_with fail
        go_roundw
        case rel => exact cmds_rel hi1 hi2 h1 h2 HCL.out hcs hmild hown9 hbz
        case measure => simp [intOf]; omega
      · have h2' : ¬ (i : Int) < 120 := by omega
        go_wp2
        go_ret
        exact ⟨_, cs, rfl, by rw [HCL.out]; omega, hcs, hown, hbw⟩
    · go_wp2
      go_ret
      exact ⟨_, cs, rfl, by rw [HCL.out]; omega, hcs, hown, hbw⟩
end Go.Proofs.Ytcjahjhpbffcfaa
