/-
  Plain laws of chapter 26: what is written is read; a beginning of it is read as far as it goes.
-/
import Derived.Test.YtcjahjhpbffcfaaMath
namespace Go.Proofs.Ytcjahjhpbffcfaa

/-- A field handed over. -/
def Part.copy (c : C) : Part → C → C
  | .a, x => { x with a := c.a }
  | .b, x => { x with b := c.b }
  | .l, x => { x with c := c.c }
  | .t, x => { x with s := c.s }
  | .u, x => { x with t := c.t }

/-- Fields that bytes can say. -/
structure Fits (c : C) : Prop where
  a0 : 0 ≤ c.a
  a1 : c.a ≤ 65535
  b0 : 0 ≤ c.b
  b1 : c.b ≤ 65535
  c0 : 0 ≤ c.c
  c1 : c.c ≤ 255
  s1 : c.s.length ≤ 255
  t1 : c.t.length ≤ 255

theorem hd_b1 (v : Int) (r : List UInt8) (h0 : 0 ≤ v) (h1 : v ≤ 255) : hd (b1 v :: r) = v := by
  simp only [hd, b1_val]; omega
theorem hd_cons (x : UInt8) (r : List UInt8) : hd (x :: r) = x.toNat := rfl

theorem pair_read (v : Int) (r : List UInt8) (h0 : 0 ≤ v) (h1 : v ≤ 65535) : pairV (encPair v ++ r) = v ∧ pairR (encPair v ++ r) = r := by
  constructor
  · simp only [pairV, encPair, List.cons_append, List.nil_append, List.tail_cons, hd_cons, b1_val]
    omega
  · simp [pairR, encPair]
theorem text_read (s r : List UInt8) (h : s.length ≤ 255) : textV (encText s ++ r) = s ∧ textR (encText s ++ r) = r := by
  have hn : textN (encText s ++ r) = s.length := by
    simp only [textN, encText, List.cons_append, List.tail_cons, List.length_append]
    rw [hd_b1 _ _ (by omega) (by omega)]
    omega
  constructor
  · unfold textV; rw [hn]; simp [encText]
  · unfold textR; rw [hn]; simp [encText]

theorem part_read (p : Part) (c x : C) (r : List UInt8) (h : Fits c) : p.run (p.enc c ++ r) x = (r, p.copy c x) := by
  obtain ⟨a0, a1, b0, hb1, c0, c1, s1, t1⟩ := h
  cases p
  · have := pair_read c.a r a0 a1; simp [Part.run, Part.enc, Part.copy, this]
  · have := pair_read c.b r b0 hb1; simp [Part.run, Part.enc, Part.copy, this]
  · have := hd_b1 c.c r c0 c1; simp [Part.run, Part.enc, Part.copy, this]
  · have := text_read c.s r s1; simp [Part.run, Part.enc, Part.copy, this]
  · have := text_read c.t r t1; simp [Part.run, Part.enc, Part.copy, this]

theorem all_read (l : List Part) (c x : C) (r : List UInt8) (h : Fits c) : runAll l (l.flatMap (Part.enc c) ++ r) x = (r, l.foldl (fun x p => p.copy c x) x) := by
  induction l generalizing x with
  | nil => rfl
  | cons p q ih =>
    simp only [List.flatMap_cons, List.append_assoc, runAll, List.foldl_cons]
    rw [part_read p c x _ h]
    exact ih _

/-- A command that bytes can say. -/
structure Good (c : C) : Prop where
  k0 : 0 ≤ c.k
  k1 : c.k ≤ 255
  fits : Fits c
  only : (partsOf c.k).foldl (fun x p => p.copy c x) ⟨c.k, 0, 0, 0, [], []⟩ = c

theorem one_read (c : C) (r : List UInt8) (h : Good c) : one (enc c ++ r) = (r, c) := by
  have hk := hd_b1 c.k ((partsOf c.k).flatMap (Part.enc c) ++ r) h.k0 h.k1
  simp only [one, enc, List.cons_append, hk, List.tail_cons]
  rw [all_read _ _ _ _ h.fits, h.only]
theorem enc_nonempty (c : C) : enc c ≠ [] := by simp [enc]
theorem dec_read (c : C) (r : List UInt8) (h : Good c) : dec (enc c ++ r) = c :: dec r := by
  rw [dec_ne (by simp [enc_nonempty]), one_read c r h]
theorem dec_enc (c : C) (h : Good c) : dec (enc c) = [c] := by
  have := dec_read c [] h
  rw [List.append_nil, dec_nil] at this
  exact this
theorem okC_good (c : C) (h : Good c) : okC c = true := by simp [okC, dec_enc c h]
theorem dec_all (l : List C) (h : ∀ c ∈ l, Good c) : dec (l.flatMap enc) = l := by
  induction l with
  | nil => simp [dec_nil]
  | cons c r ih =>
    rw [List.flatMap_cons, dec_read c _ (h c (by simp)), ih (fun c hc => h c (by simp [hc]))]

/-- A beginning of a part leaves nothing. -/
theorem part_cut (p : Part) (c x : C) (j : Nat) (h : Fits c) : (p.run ((p.enc c).take j) x).1 = [] := by
  have pr : ∀ v, pairR ((encPair v).take j) = [] := by
    intro v
    match j with
    | 0 => rfl
    | 1 => rfl
    | n + 2 => simp [pairR, encPair]
  have tr : ∀ s : List UInt8, s.length ≤ 255 → textR ((encText s).take j) = [] := by
    intro s hs
    match j with
    | 0 => rfl
    | n + 1 =>
      simp only [encText, List.take_succ_cons, textR, textN, List.tail_cons]
      rw [hd_b1 _ _ (by omega) (by omega)]
      simp
      omega
  cases p
  · exact pr _
  · exact pr _
  · match j with
    | 0 => rfl
    | n + 1 => simp [Part.run, Part.enc]
  · exact tr _ h.s1
  · exact tr _ h.t1

theorem runAll_nil (l : List Part) (x : C) : (runAll l [] x).1 = [] := by
  have := runAll_length l [] x
  exact List.length_eq_zero_iff.1 (by simpa using this)

theorem all_cut (l : List Part) (c x : C) (j : Nat) (h : Fits c) : (runAll l ((l.flatMap (Part.enc c)).take j) x).1 = [] := by
  induction l generalizing x j with
  | nil => simp [runAll]
  | cons p q ih =>
    simp only [List.flatMap_cons, runAll]
    by_cases hj : j ≤ (p.enc c).length
    · rw [List.take_append_of_le_length hj, part_cut p c x j h]
      exact runAll_nil _ _
    · obtain ⟨m, rfl⟩ : ∃ m, j = (p.enc c).length + m := ⟨j - (p.enc c).length, by omega⟩
      rw [List.take_length_add_append, part_read p c x _ h]
      exact ih _ _

/-- A command that is cut: one command of that kind, nothing left. -/
theorem one_cut (c : C) (j : Nat) (h : Good c) : (one ((enc c).take (j + 1))).1 = [] := by
  have hk := hd_b1 c.k (((partsOf c.k).flatMap (Part.enc c)).take j) h.k0 h.k1
  simp only [one, enc, List.take_succ_cons, hk, List.tail_cons]
  exact all_cut _ _ _ _ h.fits

/-- Commands that are cut: those ahead of the cut, and at most one more. -/
theorem dec_cut (l : List C) (h : ∀ c ∈ l, Good c) (j : Nat) : ∃ n, n ≤ l.length ∧ (dec ((l.flatMap enc).take j) = l.take n ∨ (n < l.length ∧ ∃ x, dec ((l.flatMap enc).take j) = l.take n ++ [x])) := by
  induction l generalizing j with
  | nil => exact ⟨0, Nat.le_refl _, .inl (by simp [dec_nil])⟩
  | cons c r ih =>
    have hc := h c (by simp)
    rw [List.flatMap_cons]
    by_cases hj : (enc c).length ≤ j
    · obtain ⟨m, rfl⟩ : ∃ m, j = (enc c).length + m := ⟨j - (enc c).length, by omega⟩
      obtain ⟨n, hn, h'⟩ := ih (fun c hc => h c (by simp [hc])) m
      rw [List.take_length_add_append, dec_read c _ hc]
      refine ⟨n + 1, by simp; omega, ?_⟩
      rcases h' with h' | ⟨hlt, x, h'⟩
      · left; rw [h']; rfl
      · right; exact ⟨by simp; omega, x, by rw [h']; rfl⟩
    · rw [List.take_append_of_le_length (by omega)]
      match j with
      | 0 => exact ⟨0, Nat.zero_le _, .inl (by simp [dec_nil])⟩
      | j + 1 =>
        refine ⟨0, Nat.zero_le _, .inr ⟨by simp, (one ((enc c).take (j + 1))).2, ?_⟩⟩
        rw [dec_ne (by simp [enc]), one_cut c j hc, dec_nil]
        rfl

/-- Zero bytes. -/
theorem zeros_read (l : List Part) (j : Nat) (k : Int) : ∃ m, runAll l (List.replicate j 0) ⟨k, 0, 0, 0, [], []⟩ = (List.replicate m 0, ⟨k, 0, 0, 0, [], []⟩) := by
  have h0 : ∀ j, hd (List.replicate j 0) = 0 := by intro j; cases j <;> rfl
  induction l generalizing j with
  | nil => exact ⟨j, rfl⟩
  | cons p q ih =>
    have : ∃ m, p.run (List.replicate j 0) ⟨k, 0, 0, 0, [], []⟩ = (List.replicate m 0, ⟨k, 0, 0, 0, [], []⟩) := by
      cases p
      · exact ⟨j - 1 - 1, by simp [Part.run, pairR, pairV, h0]⟩
      · exact ⟨j - 1 - 1, by simp [Part.run, pairR, pairV, h0]⟩
      · exact ⟨j - 1, by simp [Part.run, h0]⟩
      · exact ⟨j - 1, by simp [Part.run, textR, textV, textN, h0]⟩
      · exact ⟨j - 1, by simp [Part.run, textR, textV, textN, h0]⟩
    obtain ⟨m, hm⟩ := this
    simp only [runAll, hm]
    exact ih m
end Go.Proofs.Ytcjahjhpbffcfaa
