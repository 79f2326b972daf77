/-
  RawWrong: the walk.
-/
import Derived.Test.YtcjahjhpbffcfaaAwake
import Derived.Test.YtcjahjhpbffcfaaPlain
set_option linter.unusedVariables false
namespace Go.Proofs.Ytcjahjhpbffcfaa
open Go.RowKit

def zeros255 : List UInt8 := List.replicate 255 0
def goodC : C := ⟨3, 65535, 65535, 0, zeros255, []⟩
/-- The bad commands. -/
def badC (h : Int) (k : Int) (n : Nat) : C :=
  if h = 0 then ⟨256 + k, 65535, 65535, 0, zeros255, []⟩
  else if h = 1 then ⟨-k, 65535, 65535, 0, zeros255, []⟩
  else if h = 2 then ⟨3, 65535 + k, 65535, 0, zeros255, []⟩
  else if h = 3 then ⟨3, 65535, -k, 0, zeros255, []⟩
  else if h = 4 then ⟨3, 65535, 65535, 0, List.replicate n 0, []⟩
  else if h = 5 then ⟨3, 65535, 65535, k, zeros255, []⟩
  else if h = 6 then ⟨3, 65535, 65535, 0, zeros255, [120]⟩
  else if h = 7 then ⟨4, 65535, 65535, 0, zeros255, []⟩
  else ⟨10, 0, 0, 255 + k, [], []⟩

/-- What is read has numbers that bytes can say. -/
theorem run_fits (p : Part) (s : List UInt8) (c : C) (h : Fits c) : Fits (p.run s c).2 := by
  have hp := pairV_bounds s
  have hh := hd_bounds s
  have ht : (textV s).length ≤ 255 := by
    unfold textV textN; simp; omega
  obtain ⟨a0, a1, b0, b1, c0, c1, s1, t1⟩ := h
  cases p <;> exact ⟨by simp [Part.run]; omega, by simp [Part.run]; omega, by simp [Part.run]; omega, by simp [Part.run]; omega, by simp [Part.run]; omega, by simp [Part.run]; omega, by simp [Part.run]; omega, by simp [Part.run]; omega⟩

/-- What holds of each command that is read. -/
structure Read (c : C) : Prop where
  k0 : 0 ≤ c.k
  k1 : c.k ≤ 255
  fits : Fits c
  a : Part.a ∉ partsOf c.k → c.a = 0
  b : Part.b ∉ partsOf c.k → c.b = 0
  l : Part.l ∉ partsOf c.k → c.c = 0
  t : Part.t ∉ partsOf c.k → c.s = []
  u : Part.u ∉ partsOf c.k → c.t = []

theorem runAll_keeps (l : List Part) (s : List UInt8) (x : C) (h : Fits x) :
    (runAll l s x).2.k = x.k ∧ Fits (runAll l s x).2 ∧ (Part.a ∉ l → (runAll l s x).2.a = x.a) ∧ (Part.b ∉ l → (runAll l s x).2.b = x.b) ∧ (Part.l ∉ l → (runAll l s x).2.c = x.c) ∧
      (Part.t ∉ l → (runAll l s x).2.s = x.s) ∧ (Part.u ∉ l → (runAll l s x).2.t = x.t) := by
  induction l generalizing s x with
  | nil => exact ⟨rfl, h, fun _ => rfl, fun _ => rfl, fun _ => rfl, fun _ => rfl, fun _ => rfl⟩
  | cons p q ih =>
    obtain ⟨h1, h2, h3, h4, h5, h6, h7⟩ := ih (p.run s x).1 (p.run s x).2 (run_fits p s x h)
    simp only [runAll, List.mem_cons, not_or]
    refine ⟨h1.trans (by cases p <;> rfl), h2, fun hn => (h3 hn.2).trans ?_, fun hn => (h4 hn.2).trans ?_, fun hn => (h5 hn.2).trans ?_, fun hn => (h6 hn.2).trans ?_, fun hn => (h7 hn.2).trans ?_⟩ <;>
      (cases p <;> first | rfl | exact absurd rfl hn.1)

theorem dec_read_all (s : List UInt8) : ∀ c ∈ dec s, Read c := by
  induction h : s.length using Nat.strongRecOn generalizing s with
  | _ n ih =>
    by_cases hs : s = []
    · subst hs; simp [dec_nil]
    · rw [dec_ne hs]
      intro c hc
      rcases List.mem_cons.1 hc with rfl | hc
      · have hb := hd_bounds s
        obtain ⟨h1, h2, h3, h4, h5, h6, h7⟩ := runAll_keeps (partsOf (hd s)) s.tail ⟨hd s, 0, 0, 0, [], []⟩ ⟨by simp, by simp, by simp, by simp, by simp, by simp, by simp, by simp⟩
        have hk : (one s).2.k = hd s := h1
        exact ⟨by omega, by omega, h2, by rw [hk]; exact h3, by rw [hk]; exact h4, by rw [hk]; exact h5, by rw [hk]; exact h6, by rw [hk]; exact h7⟩
      · exact ih (one s).1.length (by have := one_length s hs; omega) (one s).1 rfl c hc

theorem okC_read {c : C} (h : okC c = true) : Read c := by
  simp only [okC, decide_eq_true_eq] at h
  exact dec_read_all (enc c) c (by rw [h]; simp)

theorem zeros_len : zeros255.length = 255 := List.length_replicate
theorem good_good : Good goodC := by
  refine ⟨by decide, by decide, ⟨by decide, by decide, by decide, by decide, by decide, by decide, Nat.le_of_eq zeros_len, by decide⟩, ?_⟩
  have hp : partsOf 3 = [.a, .b, .t] := by decide
  simp [goodC, hp, Part.copy]
theorem good_len : (enc goodC).length = 261 := by
  have hp : partsOf 3 = [.a, .b, .t] := by decide
  have hz := zeros_len
  simp only [enc, goodC, hp, List.flatMap_cons, List.flatMap_nil, Part.enc, encPair, encText, List.length_cons, List.length_append, List.length_nil, hz]
theorem good_ok : okAll [goodC] = true := by
  unfold okAll; rw [List.all_cons, okC_good _ good_good, List.all_nil]; rfl
theorem good_enc : encS [goodC] = enc goodC := by
  unfold encS; rw [if_pos good_ok, List.flatMap_cons, List.flatMap_nil, List.append_nil]

theorem bad_bad (h k : Int) (n : Nat) (hk : 1 ≤ k) (hn : 255 < n) : okC (badC h k n) = false := by
  cases hb : okC (badC h k n) with
  | false => rfl
  | true =>
    exfalso
    have p3 : partsOf 3 = [.a, .b, .t] := by decide
    have p4 : partsOf 4 = [] := by decide
    unfold badC at hb
    split at hb
    · have := (okC_read hb).k1; simp only [] at this; omega
    split at hb
    · have := (okC_read hb).k0; simp only [] at this; omega
    split at hb
    · have := (okC_read hb).fits.a1; simp only [] at this; omega
    split at hb
    · have := (okC_read hb).fits.b0; simp only [] at this; omega
    split at hb
    · have := (okC_read hb).fits.s1; simp only [List.length_replicate] at this; omega
    split at hb
    · have := (okC_read hb).l (by simp [p3]); simp only [] at this; omega
    split at hb
    · have := (okC_read hb).u (by simp [p3]); simp at this
    split at hb
    · have := (okC_read hb).a (by simp [p4]); simp at this
    · have := (okC_read hb).fits.c1; simp only [] at this; omega

theorem bad_all (h k : Int) (n : Nat) (hk : 1 ≤ k) (hn : 255 < n) : okAll [goodC, badC h k n] = false ∧ encS [goodC, badC h k n] = [] := by
  have h1 : okAll [goodC, badC h k n] = false := by
    unfold okAll; rw [List.all_cons, List.all_cons, bad_bad h k n hk hn]; simp
  exact ⟨h1, by unfold encS; rw [h1]; rfl⟩

theorem enc_len (c : C) : (enc c).length ≤ 20 + c.s.length + c.t.length := by
  unfold enc partsOf
  repeat' split
  all_goals (simp [Part.enc, encPair, encText]; try omega)
theorem bad_bounds (h k : Int) (n : Nat) (hn : n ≤ 2000) : ∀ c ∈ [goodC, badC h k n], c.s.length ≤ 100000 ∧ c.t.length ≤ 100000 ∧ (enc c).length ≤ 300000 := by
  have hb : (badC h k n).s.length ≤ 2000 ∧ (badC h k n).t.length ≤ 2000 := by
    have hz := zeros_len
    unfold badC
    repeat' split
    all_goals (simp only [List.length_replicate, List.length_cons, List.length_nil, hz]; omega)
  intro c hc
  have hl := enc_len c
  rcases List.mem_cons.1 hc with rfl | hc
  · have h1 : goodC.s.length = 255 := zeros_len
    have h2 : goodC.t.length = 0 := rfl
    omega
  · rw [List.mem_singleton] at hc
    subst hc
    omega

theorem slc_new (w : World) (l : List C) (cs : Array Value) (n : Nat) (hn : n = l.length) (hcs : cs = (cellsOf l).toArray) : SlC (w.alloc (.cells cs 35)) (.slice (some ⟨w.heap.size, 0, none⟩) n n) l := by
  subst hn hcs
  refine ⟨_, l.length, rfl, .inr ⟨w.heap.size, 0, rfl, fun i u hu => ?_⟩⟩
  rw [Nat.zero_add, cell_alloc_new]
  exact hu
theorem conv_made (w : World) (l : List UInt8) (n : Nat) (hn : n = l.length) :
    Sem.run Try.prog (convert 33 9 (.slice (some ⟨w.heap.size, 0, none⟩) n n)) (w.alloc (.cells (bv l).toArray 5)) = .ok (.string ⟨l.toArray⟩) (w.alloc (.cells (bv l).toArray 5)) := by
  subst hn
  refine run_convert_bytes_back _ 33 9 5 ⟨w.heap.size, 0, none⟩ l.length l Try.underlying33 Try.underlying5 Try.underlying9 ?_
  intro j hj
  rw [Addr.add_lit, Nat.zero_add, cell_alloc_new]
  simp [bv, hj]
theorem setCell_alloc2 (w : World) (cs : Array Value) (T : TypeId) (o : Obj) (i : Nat) (v : Value) :
    ((w.alloc (.cells cs T)).alloc o).setCell ⟨w.heap.size, i, none⟩ v = (w.alloc (.cells (cs.setIfInBounds i v) T)).alloc o := by
  have h : ∀ (a b : World), a.heap = b.heap → a.tape = b.tape → a.drawn = b.drawn → a.os = b.os → a.output = b.output → a = b := by
    intro a b; cases a; cases b; simp only [World.mk.injEq]; intros; simp_all
  refine h _ _ ?_ rfl rfl rfl rfl
  simp only [World.alloc, World.setCell]
  apply Array.ext_getElem?
  intro k
  rw [Array.getElem?_modify]
  simp only [Array.getElem?_push, Array.size_push]
  by_cases h1 : w.heap.size = k
  · subst h1
    simp
  · simp only [h1, if_false]
    by_cases h2 : k = w.heap.size + 1
    · simp [h2]
    · have h3 : ¬ k = w.heap.size := fun e => h1 e.symm
      simp [h2, h3]
theorem made_bytes (w : World) (m : Int) (n : Nat) (hm : m = (n : Int)) (hn : n ≤ 1000000) :
    Sem.run Try.prog (Instr.makeSlice 33 (.int .i64 m) (.int .i64 m)) w = .ok (.slice (some ⟨w.heap.size, 0, none⟩) n n) (w.alloc (.cells (bv (List.replicate n 0)).toArray 5)) := by
  subst hm
  obtain ⟨i0, hi0, hz0, hz1, hz2⟩ := info_parts Try.info5
  have := run_make (P := Try.prog) w 33 5 i0 _ Try.underlying33 hi0 hz0 .i64 .i64 (n : Int) (n : Int) (by omega) (Int.le_refl _) (by rw [hz2]; omega) (by omega)
  rw [this, hz1]
  simp [bv, Value.cells]
  congr 2
  apply Array.ext'
  rw [toList_madeCells_one]
  simp

set_option maxRecDepth 20000 in
set_option maxHeartbeats 2000000 in
theorem wrong_any (how v : Int) (w : World) (ha : -9223372036854775808 ≤ how ∧ how ≤ 9223372036854775807) (hb : -9223372036854775808 ≤ v ∧ v ≤ 9223372036854775807) :
    Calls Try.prog 5 #[.int .i64 how, .int .i64 v] w fun e w' => e = .returned (.bool true) ∧ Below w.heap.size w w' := by
  obtain ⟨p, hp⟩ : ∃ p, v % 1000 = p := ⟨_, rfl⟩
  have hp0 : 0 ≤ p ∧ p ≤ 999 := by omega
  obtain ⟨h, hh⟩ : ∃ h, how % 9 = h := ⟨_, rfl⟩
  have hh0 : h = 0 ∨ h = 1 ∨ h = 2 ∨ h = 3 ∨ h = 4 ∨ h = 5 ∨ h = 6 ∨ h = 7 ∨ h = 8 := by omega
  go_enter Try.func5, Try.ntmps5
  go_wp2_with fail
  refine (place_any v 1000 _ (by omega) (by omega) hb.1 hb.2).mono ?_
  rw [hp]
  rintro e w1 ⟨rfl, rfl⟩
  clear hp
  have hmk := made_bytes w 255 255 rfl (by omega)
  have hconv := conv_made w zeros255 255 zeros_len.symm
  rw [show List.replicate 255 (0 : UInt8) = zeros255 from rfl] at hmk
  generalize hZ : (bv zeros255).toArray = Z at *
  go_wp2_with fail
  clear hmk hconv
  have hsl := slc_new ((w.alloc (.cells Z 5)).alloc (.cells goodC.cells.toArray 35)) [goodC] goodC.cells.toArray 1 rfl rfl
  have hbx := heap_alloc_new (w.alloc (.cells Z 5)) (.cells goodC.cells.toArray 35)
  rw [World.size_alloc, World.size_alloc] at hsl
  rw [World.size_alloc] at hbx
  refine (encode_any _ [goodC] _ hsl (by simp) ?_).mono ?_
  · intro c hc
    rw [List.mem_singleton] at hc
    subst hc
    exact ⟨Nat.le_trans (Nat.le_of_eq zeros_len) (by omega), by simp [goodC], by rw [good_len]; omega⟩
  rw [good_enc, good_ok]
  rintro e w2 ⟨rfl, hb2⟩
  have hlen := good_len
  have hbz : Below w.heap.size w w2 := (((Below.refl w.heap.size w).alloc (Nat.le_refl _) _).alloc (by simp) _).trans (((Below.refl _ _).alloc (by simp; omega) _).trans (hb2.mono (by simp; omega)))
  have hbx2 : w2.heap[w.heap.size + 1]? = some (.cells goodC.cells.toArray 35 (0, 0)) := by
    rw [hb2.block _ (by simp), heap_alloc_old _ _ (by simp)]; exact hbx
  have hlt := (Array.getElem?_eq_some_iff.1 hbx2).1
  have hc : ∀ (j : Nat) u, goodC.cells[j]? = some u → w2.cell? ⟨w.heap.size + 1, j, none⟩ = some u := fun j u hu => by simp [World.cell?, hbx2, hu]
  have x0 : w2.cell? ⟨w.heap.size + 1, 0, none⟩ = some (.int .i64 3) := hc 0 _ rfl
  have x1 : w2.cell? ⟨w.heap.size + 1, 1, none⟩ = some (.int .i64 65535) := hc 1 _ rfl
  have x2 : w2.cell? ⟨w.heap.size + 1, 2, none⟩ = some (.int .i64 65535) := hc 2 _ rfl
  have x3 : w2.cell? ⟨w.heap.size + 1, 3, none⟩ = some (.int .i64 0) := hc 3 _ rfl
  have x4 : w2.cell? ⟨w.heap.size + 1, 4, none⟩ = some (.string ⟨zeros255.toArray⟩) := hc 4 _ rfl
  have x5 : w2.cell? ⟨w.heap.size + 1, 5, none⟩ = some (.string ⟨#[]⟩) := hc 5 _ rfl
  clear hc hbx hsl hb2 hbx2
  go_wp2_with fail
  refine (place_any how 9 _ (by omega) (by omega) ha.1 ha.2).mono ?_
  rw [hh]
  rintro e w1 ⟨rfl, rfl⟩
  clear hh
  rcases hh0 with rfl | rfl | rfl | rfl | rfl | rfl | rfl | rfl | rfl
  · go_wp2_with fail
    have hsl2 := slc_new (w2.alloc (.cells (badC 0 (1 + p) 256).cells.toArray 35)) [goodC, badC 0 (1 + p) 256] (cellsOf [goodC, badC 0 (1 + p) 256]).toArray 2 rfl rfl
    rw [World.size_alloc] at hsl2
    refine (encode_any _ [goodC, badC 0 (1 + p) 256] _ hsl2 (by simp) (bad_bounds 0 (1 + p) 256 (by omega))).mono ?_
    rw [(bad_all 0 (1 + p) 256 (by omega) (by omega)).1, (bad_all 0 (1 + p) 256 (by omega) (by omega)).2]
    rintro e w3 ⟨rfl, hb3⟩
    have hbf : Below w.heap.size w w3 := ((hbz.alloc hbz.size _).alloc (by have := hbz.size; simp; omega) _).trans (hb3.mono (by have := hbz.size; simp; omega))
    clear hsl2 x0 x1 x2 x3 x4 x5 hb3
    go_wp2_with fail
    refine (awake_any _).mono ?_
    rintro e w4 ⟨rfl, hb4⟩
    go_wp2
    go_ret
    exact ⟨rfl, hbf.trans (hb4.mono hbf.size)⟩
  · go_wp2_with fail
    have hsl2 := slc_new (w2.alloc (.cells (badC 1 (1 + p) 256).cells.toArray 35)) [goodC, badC 1 (1 + p) 256] (cellsOf [goodC, badC 1 (1 + p) 256]).toArray 2 rfl rfl
    rw [World.size_alloc] at hsl2
    refine (encode_any _ [goodC, badC 1 (1 + p) 256] _ hsl2 (by simp) (bad_bounds 1 (1 + p) 256 (by omega))).mono ?_
    rw [(bad_all 1 (1 + p) 256 (by omega) (by omega)).1, (bad_all 1 (1 + p) 256 (by omega) (by omega)).2]
    rintro e w3 ⟨rfl, hb3⟩
    have hbf : Below w.heap.size w w3 := ((hbz.alloc hbz.size _).alloc (by have := hbz.size; simp; omega) _).trans (hb3.mono (by have := hbz.size; simp; omega))
    clear hsl2 x0 x1 x2 x3 x4 x5 hb3
    go_wp2_with fail
    refine (awake_any _).mono ?_
    rintro e w4 ⟨rfl, hb4⟩
    go_wp2
    go_ret
    exact ⟨rfl, hbf.trans (hb4.mono hbf.size)⟩
  · go_wp2_with fail
    have hsl2 := slc_new (w2.alloc (.cells (badC 2 (1 + p) 256).cells.toArray 35)) [goodC, badC 2 (1 + p) 256] (cellsOf [goodC, badC 2 (1 + p) 256]).toArray 2 rfl rfl
    rw [World.size_alloc] at hsl2
    refine (encode_any _ [goodC, badC 2 (1 + p) 256] _ hsl2 (by simp) (bad_bounds 2 (1 + p) 256 (by omega))).mono ?_
    rw [(bad_all 2 (1 + p) 256 (by omega) (by omega)).1, (bad_all 2 (1 + p) 256 (by omega) (by omega)).2]
    rintro e w3 ⟨rfl, hb3⟩
    have hbf : Below w.heap.size w w3 := ((hbz.alloc hbz.size _).alloc (by have := hbz.size; simp; omega) _).trans (hb3.mono (by have := hbz.size; simp; omega))
    clear hsl2 x0 x1 x2 x3 x4 x5 hb3
    go_wp2_with fail
    refine (awake_any _).mono ?_
    rintro e w4 ⟨rfl, hb4⟩
    go_wp2
    go_ret
    exact ⟨rfl, hbf.trans (hb4.mono hbf.size)⟩
  · go_wp2_with fail
    have hsl2 := slc_new (w2.alloc (.cells (badC 3 (1 + p) 256).cells.toArray 35)) [goodC, badC 3 (1 + p) 256] (cellsOf [goodC, badC 3 (1 + p) 256]).toArray 2 rfl rfl
    rw [World.size_alloc] at hsl2
    refine (encode_any _ [goodC, badC 3 (1 + p) 256] _ hsl2 (by simp) (bad_bounds 3 (1 + p) 256 (by omega))).mono ?_
    rw [(bad_all 3 (1 + p) 256 (by omega) (by omega)).1, (bad_all 3 (1 + p) 256 (by omega) (by omega)).2]
    rintro e w3 ⟨rfl, hb3⟩
    have hbf : Below w.heap.size w w3 := ((hbz.alloc hbz.size _).alloc (by have := hbz.size; simp; omega) _).trans (hb3.mono (by have := hbz.size; simp; omega))
    clear hsl2 x0 x1 x2 x3 x4 x5 hb3
    go_wp2_with fail
    refine (awake_any _).mono ?_
    rintro e w4 ⟨rfl, hb4⟩
    go_wp2
    go_ret
    exact ⟨rfl, hbf.trans (hb4.mono hbf.size)⟩
  · obtain ⟨N, hN⟩ : ∃ N : Nat, (255 + (1 + p)).toNat = N := ⟨_, rfl⟩
    have hN1 : 255 < N ∧ N ≤ 2000 := by omega
    have hNp : 255 + (1 + p) = (N : Int) := by omega
    have hmk := fun W => made_bytes W (255 + (1 + p)) N hNp (by omega)
    have hconv := conv_made (w2.alloc (.cells #[.int .i64 3, .int .i64 65535, .int .i64 65535, .int .i64 0, .string { data := zeros255.toArray }, .string { data := #[] }] 35)) (List.replicate N 0) N (by simp)
    rw [World.size_alloc] at hconv
    have HN := Lib.hid hNp
    clear hNp hN
    generalize hY : (bv (List.replicate N 0)).toArray = Y at hmk hconv
    have hrl : (List.replicate N (0 : UInt8)).length ≤ 2000 := by rw [List.length_replicate]; omega
    obtain ⟨r, hr⟩ : ∃ r, List.replicate N (0 : UInt8) = r := ⟨_, rfl⟩
    rw [hr] at hconv hrl
    have HR := Lib.hid hr
    clear hr hY
    have hlt2 : w.heap.size < w2.heap.size := by omega
    have hset := setCell_alloc2 w2 #[.int .i64 3, .int .i64 65535, .int .i64 65535, .int .i64 0, .string { data := zeros255.toArray }, .string { data := #[] }] 35 (.cells Y 5) 4 (.string ⟨r.toArray⟩)
    rw [show (#[.int .i64 3, .int .i64 65535, .int .i64 65535, .int .i64 0, .string { data := zeros255.toArray }, .string { data := #[] }] : Array Value).setIfInBounds 4 (.string ⟨r.toArray⟩) = #[.int .i64 3, .int .i64 65535, .int .i64 65535, .int .i64 0, .string { data := r.toArray }, .string { data := #[] }] from rfl] at hset
    go_wp2_with fail
    clear hset hmk hconv
    have hsl2 := slc_new ((w2.alloc (.cells (badC 4 (1 + p) N).cells.toArray 35)).alloc (.cells Y 5)) [goodC, badC 4 (1 + p) N] (cellsOf [goodC, badC 4 (1 + p) N]).toArray 2 rfl rfl
    rw [World.size_alloc, World.size_alloc] at hsl2
    rw [← HR.out]
    refine (encode_any _ [goodC, badC 4 (1 + p) N] _ hsl2 (by simp) (bad_bounds 4 (1 + p) N (by omega))).mono ?_
    rw [(bad_all 4 (1 + p) N (by omega) (by omega)).1, (bad_all 4 (1 + p) N (by omega) (by omega)).2]
    rintro e w3 ⟨rfl, hb3⟩
    have hbf : Below w.heap.size w w3 := (((hbz.alloc hbz.size _).alloc (by have := hbz.size; simp; omega) _).alloc (by have := hbz.size; simp; omega) _).trans (hb3.mono (by have := hbz.size; simp; omega))
    clear hsl2 x0 x1 x2 x3 x4 x5 hb3
    go_wp2_with fail
    refine (awake_any _).mono ?_
    rintro e w4 ⟨rfl, hb4⟩
    go_wp2
    go_ret
    exact ⟨rfl, hbf.trans (hb4.mono hbf.size)⟩
  · go_wp2_with fail
    have hsl2 := slc_new (w2.alloc (.cells (badC 5 (1 + p) 256).cells.toArray 35)) [goodC, badC 5 (1 + p) 256] (cellsOf [goodC, badC 5 (1 + p) 256]).toArray 2 rfl rfl
    rw [World.size_alloc] at hsl2
    refine (encode_any _ [goodC, badC 5 (1 + p) 256] _ hsl2 (by simp) (bad_bounds 5 (1 + p) 256 (by omega))).mono ?_
    rw [(bad_all 5 (1 + p) 256 (by omega) (by omega)).1, (bad_all 5 (1 + p) 256 (by omega) (by omega)).2]
    rintro e w3 ⟨rfl, hb3⟩
    have hbf : Below w.heap.size w w3 := ((hbz.alloc hbz.size _).alloc (by have := hbz.size; simp; omega) _).trans (hb3.mono (by have := hbz.size; simp; omega))
    clear hsl2 x0 x1 x2 x3 x4 x5 hb3
    go_wp2_with fail
    refine (awake_any _).mono ?_
    rintro e w4 ⟨rfl, hb4⟩
    go_wp2
    go_ret
    exact ⟨rfl, hbf.trans (hb4.mono hbf.size)⟩
  · go_wp2_with fail
    have hsl2 := slc_new (w2.alloc (.cells (badC 6 (1 + p) 256).cells.toArray 35)) [goodC, badC 6 (1 + p) 256] (cellsOf [goodC, badC 6 (1 + p) 256]).toArray 2 rfl rfl
    rw [World.size_alloc] at hsl2
    refine (encode_any _ [goodC, badC 6 (1 + p) 256] _ hsl2 (by simp) (bad_bounds 6 (1 + p) 256 (by omega))).mono ?_
    rw [(bad_all 6 (1 + p) 256 (by omega) (by omega)).1, (bad_all 6 (1 + p) 256 (by omega) (by omega)).2]
    rintro e w3 ⟨rfl, hb3⟩
    have hbf : Below w.heap.size w w3 := ((hbz.alloc hbz.size _).alloc (by have := hbz.size; simp; omega) _).trans (hb3.mono (by have := hbz.size; simp; omega))
    clear hsl2 x0 x1 x2 x3 x4 x5 hb3
    go_wp2_with fail
    refine (awake_any _).mono ?_
    rintro e w4 ⟨rfl, hb4⟩
    go_wp2
    go_ret
    exact ⟨rfl, hbf.trans (hb4.mono hbf.size)⟩
  · go_wp2_with fail
    have hsl2 := slc_new (w2.alloc (.cells (badC 7 (1 + p) 256).cells.toArray 35)) [goodC, badC 7 (1 + p) 256] (cellsOf [goodC, badC 7 (1 + p) 256]).toArray 2 rfl rfl
    rw [World.size_alloc] at hsl2
    refine (encode_any _ [goodC, badC 7 (1 + p) 256] _ hsl2 (by simp) (bad_bounds 7 (1 + p) 256 (by omega))).mono ?_
    rw [(bad_all 7 (1 + p) 256 (by omega) (by omega)).1, (bad_all 7 (1 + p) 256 (by omega) (by omega)).2]
    rintro e w3 ⟨rfl, hb3⟩
    have hbf : Below w.heap.size w w3 := ((hbz.alloc hbz.size _).alloc (by have := hbz.size; simp; omega) _).trans (hb3.mono (by have := hbz.size; simp; omega))
    clear hsl2 x0 x1 x2 x3 x4 x5 hb3
    go_wp2_with fail
    refine (awake_any _).mono ?_
    rintro e w4 ⟨rfl, hb4⟩
    go_wp2
    go_ret
    exact ⟨rfl, hbf.trans (hb4.mono hbf.size)⟩
  · go_wp2_with fail
    have hsl2 := slc_new (w2.alloc (.cells (badC 8 (1 + p) 256).cells.toArray 35)) [goodC, badC 8 (1 + p) 256] (cellsOf [goodC, badC 8 (1 + p) 256]).toArray 2 rfl rfl
    rw [World.size_alloc] at hsl2
    refine (encode_any _ [goodC, badC 8 (1 + p) 256] _ hsl2 (by simp) (bad_bounds 8 (1 + p) 256 (by omega))).mono ?_
    rw [(bad_all 8 (1 + p) 256 (by omega) (by omega)).1, (bad_all 8 (1 + p) 256 (by omega) (by omega)).2]
    rintro e w3 ⟨rfl, hb3⟩
    have hbf : Below w.heap.size w w3 := ((hbz.alloc hbz.size _).alloc (by have := hbz.size; simp; omega) _).trans (hb3.mono (by have := hbz.size; simp; omega))
    clear hsl2 x0 x1 x2 x3 x4 x5 hb3
    go_wp2_with fail
    refine (awake_any _).mono ?_
    rintro e w4 ⟨rfl, hb4⟩
    go_wp2
    go_ret
    exact ⟨rfl, hbf.trans (hb4.mono hbf.size)⟩
end Go.Proofs.Ytcjahjhpbffcfaa
