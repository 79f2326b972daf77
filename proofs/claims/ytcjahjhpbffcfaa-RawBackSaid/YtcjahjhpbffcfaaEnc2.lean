/-
  raw.Encode.
-/
import Derived.Test.YtcjahjhpbffcfaaEnc
import Derived.Laws.IdiomStrings
import Derived.Deep.DeepCutAuto
import Derived.Lib.BufferRead
set_option linter.unusedVariables false
namespace Go.Proofs.Ytcjahjhpbffcfaa
open Go.RowKit

def okAll (l : List C) : Bool := l.all okC
def encS (l : List C) : List UInt8 := if okAll l then l.flatMap enc else []

def EncI (l : List C) (w0 : World) (vo vi : Value) (wr : World) : Prop :=
  ∃ i : Nat, i ≤ l.length ∧ vi = .int .i64 i ∧ okAll (l.take i) = true ∧ wr.ownsRow w0.heap.size 5 1 vo ((l.take i).flatMap enc).length (bv ((l.take i).flatMap enc)) ∧ Below w0.heap.size w0 wr

theorem conv_row {w : World} {base n : Nat} {v : Value} {l : List UInt8} (h : w.ownsRow base 5 1 v n (bv l)) (hn : n = l.length) (hl : l ≠ []) :
    ∃ g cap, v = .slice (some ⟨g, 0, none⟩) l.length cap ∧ base ≤ g ∧ Sem.run Try.prog (convert 33 9 (.slice (some ⟨g, 0, none⟩) l.length cap)) w = .ok (.string ⟨l.toArray⟩) w := by
  subst hn
  obtain ⟨g, cap, hv, hb, hc⟩ := ownsRow_cell1 h (List.length_pos_iff.2 hl)
  refine ⟨g, cap, hv, hb, ?_⟩
  refine run_convert_bytes_back w 33 9 5 ⟨g, 0, none⟩ cap l Try.underlying33 Try.underlying5 Try.underlying9 ?_
  intro j hj
  rw [Addr.add_lit, Nat.zero_add]
  exact hc j _ (by simp [bv, hj])

theorem conv_any {w : World} {base : Nat} {v : Value} {l : List UInt8} (h : w.ownsRow base 5 1 v l.length (bv l)) :
    ∃ a cap, v = .slice a l.length cap ∧ Sem.run Try.prog (convert 33 9 (.slice a l.length cap)) w = .ok (.string ⟨l.toArray⟩) w := by
  by_cases hl : l = []
  · subst hl
    rcases h.2 with ⟨hv, _⟩ | ⟨g, cap, cur, hv, _⟩
    · exact ⟨none, 0, hv, Lib.run_convert_nil_bytes w 33 9 5 0 Try.underlying33 Try.underlying5 Try.underlying9⟩
    · exact ⟨some ⟨g, 0, none⟩, cap, hv, run_convert_bytes_back w 33 9 5 ⟨g, 0, none⟩ cap [] Try.underlying33 Try.underlying5 Try.underlying9 (fun j hj => by simp at hj)⟩
  · obtain ⟨g, cap, hv, _, hc⟩ := conv_row h rfl hl
    exact ⟨_, cap, hv, hc⟩

theorem run_neq_cmd (a b : C) (w : World) : (binOp .neq 35 (.agg #[.int .i64 a.k, .int .i64 a.a, .int .i64 a.b, .int .i64 a.c, .string ⟨a.s.toArray⟩, .string ⟨a.t.toArray⟩]) (.agg #[.int .i64 b.k, .int .i64 b.a, .int .i64 b.b, .int .i64 b.c, .string ⟨b.s.toArray⟩, .string ⟨b.t.toArray⟩])).run Try.prog w = .ok (.bool (!decide (a = b))) w := by
  obtain ⟨k, a, b0, c, s, t⟩ := a
  obtain ⟨k', a', b', c', s', t'⟩ := b
  by_cases h1 : k = k'
  · subst h1
    by_cases h2 : a = a'
    · subst h2
      by_cases h3 : b0 = b'
      · subst h3
        by_cases h4 : c = c'
        · subst h4
          by_cases h5 : s = s'
          · subst h5
            by_cases h6 : t = t'
            · subst h6
              go_simp
            · go_simp
          · go_simp
        · go_simp
      · go_simp
    · go_simp
  · go_simp

theorem enc_ne (c : C) : enc c ≠ [] := by simp [enc]

theorem slc_of_row {w : World} {base n : Nat} {v : Value} {l : List C} (h : w.ownsRow base 35 6 v n (cellsOf l)) (hn : n = l.length) : SlC w v l := by
  subst hn
  rcases h.2 with ⟨hv, h0⟩ | ⟨g, cap, cur, hv, hb, hg, h4, h5, h6, h7⟩
  · exact ⟨none, 0, by rw [hv, h0], .inl (List.length_eq_zero_iff.1 h0)⟩
  · refine ⟨_, cap, hv, .inr ⟨g, 0, rfl, fun i u hu => ?_⟩⟩
    have := h.cells (g := g) (by rw [hv]; rfl) i u hu
    rw [Addr.add_lit] at this
    exact this

theorem drewN_own {w : World} {base e size n : Nat} {v : Value} {xs : List Value} (h : w.ownsRow base e size v n xs) (k : Nat) : (w.drewN k).ownsRow base e size v n xs := h
theorem below_drewN (B : Nat) (w : World) (k : Nat) : Below B w (w.drewN k) := ⟨rfl, rfl, rfl, Nat.le_refl _, fun _ _ => rfl⟩
theorem flat_enc_len (l : List C) (i : Nat) (h : ∀ c ∈ l, (enc c).length ≤ 300000) : ((l.take i).flatMap enc).length ≤ 300000 * i := by
  induction l generalizing i with
  | nil => simp
  | cons c r ih =>
    cases i with
    | zero => simp
    | succ i =>
      have h1 := h c (by simp)
      have h2 := ih i (fun c hc => h c (by simp [hc]))
      simp only [List.take_succ_cons, List.flatMap_cons, List.length_append]
      omega

theorem encode_any (v : Value) (l : List C) (w : World) (hv : SlC w v l) (hm : l.length ≤ 1000) (hs : ∀ c ∈ l, c.s.length ≤ 100000 ∧ c.t.length ≤ 100000 ∧ (enc c).length ≤ 300000) :
    Calls Try.prog 8 #[v] w fun e w' => e = .returned (.tuple #[.string ⟨(encS l).toArray⟩, .bool (okAll l)]) ∧ Below w.heap.size w w' := by
  obtain ⟨a, cap, rfl, hc⟩ := id hv
  obtain ⟨i0, hi0, hz0, hz1, hz2⟩ := info_parts Try.info5
  go_enter Try.func8, Try.ntmps8
  go_wp2_with fail
  go_loopw [4, 11] (fun vo vi wr => EncI l w vo vi wr) (fun _ vi _ => l.length - (intOf vi).toNat)
  case atStart => exact ⟨0, Nat.zero_le _, rfl, rfl, World.ownsRow_nil _ _ _ _, Below.refl _ _⟩
  case round =>
    obtain ⟨i, hi, rfl, hok, hrow, hbw⟩ := hrel
    by_cases hlt : i < l.length
    · rcases hc with hc | ⟨g, off, rfl, _⟩
      · rw [hc] at hlt; simp at hlt
      obtain ⟨ci, hci⟩ : ∃ ci, l[i] = ci := ⟨_, rfl⟩
      obtain ⟨hcs, hct, hce⟩ := hs ci (hci ▸ List.getElem_mem hlt)
      obtain ⟨a0, a1, a2, a3, a4, a5⟩ := (hv.on hbw).six i hlt ci hci
      have HCI := Lib.hid hci
      have HOK := Lib.hid hok
      clear hci hok
      go_wp2_with fail
      refine (bytes_any ci _ hcs hct).mono ?_
      rintro e w1 ⟨v1, rfl, hr1, hb1⟩
      obtain ⟨g1, cap1, hv1, hg1, hconv⟩ := conv_row hr1 rfl (enc_ne ci)
      rw [hv1] at hr1 ⊢
      clear a0 a1 a2 a3 a4 a5
      go_wp2_with fail
      refine (decode_any (enc ci) _ (by omega)).mono ?_
      rintro e w2 ⟨v2, rfl, hr2, hb2⟩
      clear hconv
      have hbA : Below wr.heap.size wr w2 := (((Below.refl wr.heap.size wr).alloc (Nat.le_refl _) _).trans (hb1.mono (by simp))).trans (hb2.mono (by have := hb1.size; simp at this; omega))
      have hbox : w2.heap[wr.heap.size]? = some (.cells ci.cells.toArray 35 (0, 0)) := by
        rw [hb2.block _ (by have := hb1.size; simp at this; omega), hb1.block _ (by simp), heap_alloc_new]
        rfl
      have hm2 := slc_of_row hr2 rfl
      obtain ⟨am, capm, hvm, hcm⟩ := id hm2
      rw [hvm] at hm2 ⊢
      have hbz := hbw.trans (hbA.mono hbw.size)
      have hrow2 := below_kept hrow hbA
      have hr12 := below_kept hr1 hb2
      by_cases h1 : (dec (enc ci)).length = 1
      · obtain ⟨d, hd⟩ : ∃ d, dec (enc ci) = [d] := by
          match hq : dec (enc ci), h1 with
          | [d], _ => exact ⟨d, rfl⟩
        rw [hd] at hm2 hcm hvm hr2 ⊢
        clear h1
        rcases hcm with hcm | ⟨gm, om, rfl, _⟩
        · simp at hcm
        obtain ⟨m0, m1, m2, m3, m4, m5⟩ := hm2.six 0 (by simp) d rfl
        simp only [Nat.zero_mul, Nat.add_zero] at m0 m1 m2 m3 m4 m5
        have hbx : ∀ (j : Nat) u, ci.cells[j]? = some u → w2.cell? ⟨wr.heap.size, j, none⟩ = some u := fun j u hu => by simp [World.cell?, hbox, hu]
        have x0 := hbx 0 _ rfl
        have x1 := hbx 1 _ rfl
        have x2 := hbx 2 _ rfl
        have x3 := hbx 3 _ rfl
        have x4 := hbx 4 _ rfl
        have x5 := hbx 5 _ rfl
        have hneq := run_neq_cmd d ci
        by_cases hdc : d = ci
        · subst hdc
          have hdd : (!decide (d = d)) = false := by simp
          rw [hdd] at hneq
          go_wp2_with fail
          go_quiet (fail)
          clear hneq hdd m0 m1 m2 m3 m4 m5 x0 x1 x2 x3 x4 x5 hbx
          have hcells : ∀ (j : Nat) u, (bv (enc d))[j]? = some u → w2.cell? ⟨g1, j, none⟩ = some u := by
            intro j u hu
            have := hr12.cells (g := g1) rfl j u hu
            rw [Addr.add_lit] at this
            simpa using this
          have htl : ((l.take (i + 1)).flatMap enc) = ((l.take i).flatMap enc) ++ enc d := by
            rw [List.take_succ_eq_append_getElem hlt, HCI.out, List.flatMap_append]; simp
          have hlen : ((l.take i).flatMap enc).length ≤ 300000 * i := flat_enc_len l i (fun c hc => (hs c hc).2.2)
          have hok' : okAll (l.take (i + 1)) = true := by
            rw [List.take_succ_eq_append_getElem hlt, HCI.out]
            have h1 := HOK.out
            simp [okAll] at h1 ⊢
            exact ⟨h1, by simp [okC, hd]⟩
          have HTL := Lib.hid htl
          have HOK2 := Lib.hid hok'
          have HD := Lib.hid hd
          generalize (l.take i).flatMap enc = acc at *
          clear htl hok' hd hr1 hr12 hr2 hrow hbox hm2
          go_wp2_with (at_builtin; go_must (refine wpList_append_own _ rfl _ _ 33 rfl w.heap.size 5 i0 _ 1 1 Try.underlying33 hi0 hz0 hz1 hz2 rfl (by decide) _ _ _ rfl (drewN_own hrow2 _) ⟨g1, 0, none⟩ (enc d).length cap1 (bv (enc d)) rfl ?c1 ?c2 ?c3 ?c4 ?c5 ?c6 ?_))
          case c1 => simp [bv]
          case c2 => intro j u hj; rw [Addr.add_lit, Nat.zero_add]; exact hcells j u hj
          case c3 => exact oneCell_bv _
          case c4 => unfold maxLen; omega
          case c5 => omega
          case c6 => exact hbz.size
          intro v' w3 hown3 hg3 _
          clear hcells
          go_wp2_with fail
          go_roundw
          case rel =>
            refine ⟨i + 1, by omega, by go_num, HOK2.out, ?_, ?_⟩
            · rw [HTL.out, List.length_append, bv_append]; exact hown3
            · refine (hbz.trans (below_drewN _ _ _)).grown hg3 hbz.size (fun k hk => (hrow2.lt k hk).1)
          case measure => simp [intOf]; omega
        · have hdd : (!decide (d = ci)) = true := by simp [hdc]
          rw [hdd] at hneq
          have hbad : okAll l = false := by
            simp only [okAll, List.all_eq_false]
            exact ⟨ci, HCI.out ▸ List.getElem_mem hlt, by simp [okC, hd, hdc]⟩
          have HB := Lib.hid hbad
          go_wp2_with fail
          clear hbad
          go_quiet (fail)
          clear hneq hdd m0 m1 m2 m3 m4 m5 x0 x1 x2 x3 x4 x5 hbx
          go_wp2
          go_ret2
          refine ⟨?_, hbz.trans (below_drewN _ _ _)⟩
          simp [encS, HB.out]
      · have hn1 : (((dec (enc ci)).length : Int) != 1) = true := by simp; omega
        have hbad : okAll l = false := by
            simp only [okAll, List.all_eq_false]
            exact ⟨ci, HCI.out ▸ List.getElem_mem hlt, by simp [okC]; intro h; rw [h] at h1; exact h1 rfl⟩
        have HB := Lib.hid hbad
        clear hbad
        go_wp2_with fail
        go_quiet (fail)
        go_wp2
        go_ret2
        refine ⟨?_, hbz.trans (below_drewN _ _ _)⟩
        simp [encS, HB.out]
    · have hfin : i = l.length := by omega
      rw [hfin, List.take_length] at hok hrow
      clear hfin
      have hE : encS l = l.flatMap enc := by simp [encS, hok]
      have HOK := Lib.hid hok
      have HE := Lib.hid hE
      clear hok hE
      generalize l.flatMap enc = acc at *
      obtain ⟨a1, cap1, hv1, hconv⟩ := conv_any hrow
      rw [hv1]
      go_wp2
      go_ret2
      refine ⟨?_, hbw⟩
      rw [HE.out, HOK.out]
      rfl
end Go.Proofs.Ytcjahjhpbffcfaa
