/- One text just where they are alike. No condition. -/
import Derived.Test.YtemggoaefohliaaPuD
namespace Go.Proofs.Ytemggoaefohliaa.PT
set_option linter.unusedVariables false
set_option linter.unusedSimpArgs false
open Go AE EX
set_option maxRecDepth 100000

theorem kid_nodes {k : Int} {nm : List UInt8} {n lo hi : Int} {tk : Bool} {kids : List X} (h4 : k ≠ 4) {z y : X} (hz : z ∈ kids) (hy : y ∈ z.nodes) : y ∈ (X.mk k nm n lo hi tk kids).nodes := by
  have h4' : (k == 4) = false := by simp [h4]
  simp only [X.nodes, h4']
  refine List.mem_cons_of_mem _ ?_
  have : ∀ l : List X, z ∈ l → y ∈ nodesL l := fun l => by
    induction l with
    | nil => intro hh; cases hh
    | cons w l ih =>
      intro hh
      simp only [nodesL, List.mem_append]
      rcases List.mem_cons.1 hh with rfl | hh
      · exact .inl hy
      · exact .inr (ih hh)
  exact this kids hz

theorem sign_inj {k k' : Int} (hk : k = 8 ∨ k = 9 ∨ k = 10 ∨ k = 14 ∨ k = 15 ∨ k = 16 ∨ k = 17 ∨ k = 19 ∨ k = 20) (hk' : k' = 8 ∨ k' = 9 ∨ k' = 10 ∨ k' = 14 ∨ k' = 15 ∨ k' = 16 ∨ k' = 17 ∨ k' = 19 ∨ k' = 20) {r s : List UInt8}
    (h : signT k ++ 32 :: r = signT k' ++ 32 :: s) : k = k' ∧ r = s := by
  rcases hk with rfl | rfl | rfl | rfl | rfl | rfl | rfl | rfl | rfl <;> rcases hk' with rfl | rfl | rfl | rfl | rfl | rfl | rfl | rfl | rfl <;> simp [signT] at h <;> first | exact ⟨rfl, h⟩ | skip

theorem span_inj' {lo hi lo' hi' : Int} (h1 : 0 ≤ lo ∧ (hi = -1 ∨ lo ≤ hi)) (h2 : 0 ≤ lo' ∧ (hi' = -1 ∨ lo' ≤ hi')) {r s : List UInt8} (h : spanT lo hi ++ r = spanT lo' hi' ++ s) : lo = lo' ∧ hi = hi' ∧ r = s := by
  unfold spanT at h
  simp only [List.cons_append, List.append_assoc, List.cons.injEq, true_and, List.nil_append] at h
  obtain ⟨e0, h0⟩ := dec_inj h1.1 h2.1 (by simp [stops, isDig]) (by simp [stops, isDig]) h
  subst e0
  clear h
  have h := (List.cons.inj h0).2
  refine ⟨rfl, ?_⟩
  by_cases e1 : hi = -1 <;> by_cases e2 : hi' = -1
  · subst e1 e2; simp at h; exact ⟨rfl, h⟩
  · exfalso
    rw [if_pos e1, if_neg e2, dec_pos (by omega)] at h
    have := dg_all hi'.natAbs
    cases hd : dg hi'.natAbs with
    | nil => have := dg_pos hi'.natAbs; rw [hd] at this; simp at this
    | cons c t => rw [hd] at h this; simp at h this; rw [← h.1] at this; simp [isDig] at this
  · exfalso
    rw [if_neg e1, if_pos e2, dec_pos (by omega)] at h
    have := dg_all hi.natAbs
    cases hd : dg hi.natAbs with
    | nil => have := dg_pos hi.natAbs; rw [hd] at this; simp at this
    | cons c t => rw [hd] at h this; simp at h this; rw [h.1] at this; simp [isDig] at this
  · rw [if_neg e1, if_neg e2] at h
    obtain ⟨e3, h3⟩ := dec_inj (by omega) (by omega) (by simp [stops, isDig]) (by simp [stops, isDig]) h
    simp at h3
    exact ⟨e3, h3⟩

theorem st44 (r : List UInt8) : stops tl (44 :: r) := by show tl 44 = false; decide
theorem st41 (r : List UInt8) : stops tl (41 :: r) := by show tl 41 = false; decide
theorem sd41 (r : List UInt8) : stops isDig (41 :: r) := by show isDig 41 = false; decide

/-- whole: each part is what it has to be -/
def AG (x : X) : Prop := ∀ y ∈ x.nodes, Good y

set_option maxHeartbeats 2000000 in
theorem txt_inj : ∀ (m : Nat) (x y : X) (r s : List UInt8), x.size ≤ m → AG x → AG y → delim r → delim s → x.txt ++ r = y.txt ++ s → x.same y = true ∧ r = s
  | 0, x, _, _, _, hm, _, _, _, _, _ => absurd hm (by have := size_pos x; omega)
  | m + 1, .mk k nm n lo hi tk ks, .mk k' nm' n' lo' hi' tk' ks', r, s, hm, hx, hy, hr, hs, h => by
    have mx := may_of_good _ _ (Nat.le_refl _) hx
    have my := may_of_good _ _ (Nat.le_refl _) hy
    obtain ⟨g1, g2, g3, f⟩ := hx (.mk k nm n lo hi tk ks) (by simp [X.nodes])
    obtain ⟨g1', g2', g3', f'⟩ := hy (.mk k' nm' n' lo' hi' tk' ks') (by simp [X.nodes])
    have t1 := tag_txt k nm n lo hi tk ks mx f r
    have t2 := tag_txt k' nm' n' lo' hi' tk' ks' my f' s
    rw [h, t2] at t1
    have kk := (kinds_iff k).1 g1
    have kk' := (kinds_iff k').1 g1'
    simp only [X.size] at hm
    have kidx : ∀ z ∈ ks, k ≠ 4 → AG z := fun z hz h4 y hy' => hx y (kid_nodes h4 hz hy')
    have kidy : ∀ z ∈ ks', k' ≠ 4 → AG z := fun z hz h4 y hy' => hy y (kid_nodes h4 hz hy')
    cases mx with
    | set _ _ _ _ _ _ _ =>
      have ek : k' = 4 := by unfold cls at t1; split at t1 <;> simp at t1 <;> omega
      subst ek
      have e1 := set_txt ks (g3 rfl)
      have e2 := set_txt ks' (g3' rfl)
      simp only [X.txt, if_true, e1, e2] at h
      obtain ⟨e3, e4⟩ := qs_inj (ks.map nmOf) (ks'.map nmOf) r s (fun a ha => by
          obtain ⟨z, hz, rfl⟩ := List.mem_map.1 ha
          obtain ⟨_, _, rfl, hp⟩ := g3 rfl z hz
          exact hp) (fun a ha => by
          obtain ⟨z, hz, rfl⟩ := List.mem_map.1 ha
          obtain ⟨_, _, rfl, hp⟩ := g3' rfl z hz
          exact hp) (by simpa [qs] using h)
      obtain ⟨e5, e6⟩ := set_same ks ks' (g3 rfl) (g3' rfl) e3
      have z1 := f.none (by omega)
      have z2 := f'.none (by omega)
      have z3 := f.num (by omega) (by omega)
      have z4 := f'.num (by omega) (by omega)
      have z5 := f.zero (by omega)
      have z6 := f'.zero (by omega)
      refine ⟨?_, e4⟩
      simp [X.same, z1, z2, z3, z4, z5, z6, e5, e6]
    | leaf _ _ _ _ _ _ hk hb =>
      have ek : k' = k := by
        rcases hk with rfl | rfl | rfl | rfl | rfl | rfl | rfl | rfl <;> (unfold cls at t1; split at t1 <;> simp at t1 <;> omega)
      subst ek
      have e0 : ks' = [] := by
        have := g2' (by rcases hk with rfl | rfl | rfl | rfl | rfl | rfl | rfl | rfl <;> decide)
        have h0 : kidsI k' = 0 := by rcases hk with rfl | rfl | rfl | rfl | rfl | rfl | rfl | rfl <;> decide
        rw [h0] at this
        exact List.eq_nil_of_length_eq_zero (by omega)
      subst e0
      have z5 := f.zero
      have z6 := f'.zero
      rcases hk with rfl | rfl | rfl | rfl | rfl | rfl | rfl | rfl
      · have a1 := f.none (by omega)
        have a2 := f'.none (by omega)
        have a5 := f.zero (by omega)
        have a6 := f'.zero (by omega)
        simp [X.txt, leafT] at h
        obtain ⟨e1, e2⟩ := dec_inj (f.int rfl) (f'.int rfl) (delim_dig hr) (delim_dig hs) h
        exact ⟨by simp [X.same, sameL, a1, a2, a5, a6, e1], e2⟩
      · have a1 := f.none (by omega)
        have a2 := f'.none (by omega)
        have a5 := f.zero (by omega)
        have a6 := f'.zero (by omega)
        rcases f.bool rfl with rfl | rfl <;> rcases f'.bool rfl with rfl | rfl <;> simp [X.txt, leafT] at h
        · exact ⟨by simp [X.same, sameL, a1, a2, a5, a6], h⟩
        · exact ⟨by simp [X.same, sameL, a1, a2, a5, a6], h⟩
      · have a3 := f.num (by omega) (by omega)
        have a4 := f'.num (by omega) (by omega)
        have a5 := f.zero (by omega)
        have a6 := f'.zero (by omega)
        simp [X.txt, leafT, quoteT] at h
        obtain ⟨e1, e2⟩ := plain_inj (f.text rfl) (f'.text rfl) h
        exact ⟨by simp [X.same, sameL, a3, a4, a5, a6, e1], e2⟩
      · have a3 := f.num (by omega) (by omega)
        have a4 := f'.num (by omega) (by omega)
        have a5 := f.zero (by omega)
        have a6 := f'.zero (by omega)
        simp [X.txt, leafT] at h
        obtain ⟨e1, e2⟩ := name_inj (f.name (by omega)) (f'.name (by omega)) (delim_tl hr) (delim_tl hs) h
        exact ⟨by simp [X.same, sameL, a3, a4, a5, a6, e1], e2⟩
      · have a3 := f.num (by omega) (by omega)
        have a4 := f'.num (by omega) (by omega)
        have a5 := f.zero (by omega)
        have a6 := f'.zero (by omega)
        simp [X.txt, leafT] at h
        obtain ⟨e1, e2⟩ := name_inj (f.name (by omega)) (f'.name (by omega)) (delim_tl hr) (delim_tl hs) h
        exact ⟨by simp [X.same, sameL, a3, a4, a5, a6, e1], e2⟩
      · have a1 := f.none (by omega)
        have a2 := f'.none (by omega)
        have a3 := f.num (by omega) (by omega)
        have a4 := f'.num (by omega) (by omega)
        have a5 := f.zero (by omega)
        have a6 := f'.zero (by omega)
        simp [X.txt, leafT] at h
        exact ⟨by simp [X.same, sameL, a1, a2, a3, a4, a5, a6], h⟩
      · have a3 := f.num (by omega) (by omega)
        have a4 := f'.num (by omega) (by omega)
        have a5 := f.times rfl
        have a6 := f'.times rfl
        simp [X.txt, leafT] at h
        obtain ⟨e1, e2⟩ := name_inj (f.name (by omega)) (f'.name (by omega)) (st44 _) (st44 _) h
        simp at e2
        obtain ⟨e3, e4⟩ := dec_inj a5.2 a6.2 (sd41 _) (sd41 _) e2
        simp at e4
        exact ⟨by simp [X.same, sameL, a3, a4, a5, a6, e1, e3], e4⟩
      · have a3 := f.num (by omega) (by omega)
        have a4 := f'.num (by omega) (by omega)
        have a5 := f.zero (by omega)
        have a6 := f'.zero (by omega)
        simp [X.txt, leafT] at h
        obtain ⟨e1, e2⟩ := name_inj (f.name (by omega)) (f'.name (by omega)) (st41 _) (st41 _) h
        simp at e2
        exact ⟨by simp [X.same, sameL, a3, a4, a5, a6, e1], e2⟩
    | one _ _ _ _ _ _ a hk ha =>
      have ek : k' = k := by
        rcases hk with rfl | rfl | rfl | rfl | rfl | rfl <;> (unfold cls at t1; split at t1 <;> simp at t1 <;> omega)
      subst ek
      have h4 : k' ≠ 4 := by omega
      obtain ⟨b, rfl⟩ : ∃ b, ks' = [b] := by
        have := g2' h4
        have h0 : kidsI k' = 1 := by rcases hk with rfl | rfl | rfl | rfl | rfl | rfl <;> decide
        rw [h0] at this
        match ks', this with
        | [b], _ => exact ⟨b, rfl⟩
        | [], this => simp at this
        | _ :: _ :: _, this => simp at this; omega
      have hsa : a.size ≤ m := by simp [sizeL] at hm; omega
      have ga := kidx a (by simp) h4
      have gb := kidy b (by simp) h4
      have a1 := f.none (by omega)
      have a2 := f'.none (by omega)
      have a3 := f.num (by omega) (by omega)
      have a4 := f'.num (by omega) (by omega)
      have j1 : joinT (txtL [a]) = a.txt := by simp [joinT, txtL, Lib.join_one]
      have j2 : joinT (txtL [b]) = b.txt := by simp [joinT, txtL, Lib.join_one]
      have d41 : ∀ q, delim (41 :: q) := fun q => .inr (.inl rfl)
      rcases hk with rfl | rfl | rfl | rfl | rfl | rfl
      · have a5 := f.zero (by omega)
        have a6 := f'.zero (by omega)
        simp [X.txt, j1, j2] at h
        obtain ⟨e1, e2⟩ := txt_inj m a b r s hsa ga gb hr hs h
        exact ⟨by simp [X.same, sameL, a1, a2, a3, a4, a5, a6, e1], e2⟩
      · have a5 := f.zero (by omega)
        have a6 := f'.zero (by omega)
        simp [X.txt, j1, j2, frontT] at h
        obtain ⟨e1, e2⟩ := txt_inj m a b _ _ hsa ga gb (d41 _) (d41 _) h
        exact ⟨by simp [X.same, sameL, a1, a2, a3, a4, a5, a6, e1], by simpa using e2⟩
      · have a5 := f.zero (by omega)
        have a6 := f'.zero (by omega)
        simp [X.txt, j1, j2] at h
        obtain ⟨e1, e2⟩ := txt_inj m a b r s hsa ga gb hr hs h
        exact ⟨by simp [X.same, sameL, a1, a2, a3, a4, a5, a6, e1], e2⟩
      · have a5 := f.span (by omega)
        have a6 := f'.span (by omega)
        simp [X.txt, j1, j2, frontT] at h
        obtain ⟨e3, e4, h⟩ := span_inj' a5 a6 h
        simp at h
        obtain ⟨e1, e2⟩ := txt_inj m a b _ _ hsa ga gb (d41 _) (d41 _) h
        exact ⟨by simp [X.same, sameL, a1, a2, a3, a4, e3, e4, e1], by simpa using e2⟩
      · have a5 := f.span (by omega)
        have a6 := f'.span (by omega)
        simp [X.txt, j1, j2, frontT] at h
        obtain ⟨e3, e4, h⟩ := span_inj' a5 a6 h
        simp at h
        obtain ⟨e1, e2⟩ := txt_inj m a b _ _ hsa ga gb (d41 _) (d41 _) h
        exact ⟨by simp [X.same, sameL, a1, a2, a3, a4, e3, e4, e1], by simpa using e2⟩
      · have a5 := f.zero (by omega)
        have a6 := f'.zero (by omega)
        simp [X.txt, j1, j2, frontT] at h
        obtain ⟨e1, e2⟩ := txt_inj m a b _ _ hsa ga gb (d41 _) (d41 _) h
        exact ⟨by simp [X.same, sameL, a1, a2, a3, a4, a5, a6, e1], by simpa using e2⟩
    | two _ _ _ _ _ _ a b hk ha hb =>
      have ek : (k = 24 ∧ k' = 24) ∨ ((k = 8 ∨ k = 9 ∨ k = 10 ∨ k = 14 ∨ k = 15 ∨ k = 16 ∨ k = 17 ∨ k = 19 ∨ k = 20) ∧ (k' = 8 ∨ k' = 9 ∨ k' = 10 ∨ k' = 14 ∨ k' = 15 ∨ k' = 16 ∨ k' = 17 ∨ k' = 19 ∨ k' = 20)) := by
        by_cases h24 : k = 24
        · subst h24
          refine .inl ⟨rfl, ?_⟩
          unfold cls at t1; split at t1 <;> simp at t1 <;> omega
        · have hb' : k = 8 ∨ k = 9 ∨ k = 10 ∨ k = 14 ∨ k = 15 ∨ k = 16 ∨ k = 17 ∨ k = 19 ∨ k = 20 := by omega
          refine .inr ⟨hb', ?_⟩
          unfold cls at t1
          rw [if_pos hb'] at t1
          split at t1
          · assumption
          · omega
      have h4 : k ≠ 4 := by omega
      have h4' : k' ≠ 4 := by omega
      obtain ⟨c, d, rfl⟩ : ∃ c d, ks' = [c, d] := by
        have := g2' h4'
        have h0 : kidsI k' = 2 := by
          rcases ek with ⟨_, rfl⟩ | ⟨_, rfl | rfl | rfl | rfl | rfl | rfl | rfl | rfl | rfl⟩ <;> decide
        rw [h0] at this
        match ks', this with
        | [c, d], _ => exact ⟨c, d, rfl⟩
        | [], this => simp at this
        | [_], this => simp at this
        | _ :: _ :: _ :: _, this => simp at this; omega
      have hsa : a.size ≤ m := by simp [sizeL] at hm; omega
      have hsb : b.size ≤ m := by simp [sizeL] at hm; omega
      have ga := kidx a (by simp) h4
      have gb := kidx b (by simp) h4
      have gc := kidy c (by simp) h4'
      have gd := kidy d (by simp) h4'
      have a1 := f.none (by omega)
      have a2 := f'.none (by omega)
      have a3 := f.num (by omega) (by omega)
      have a4 := f'.num (by omega) (by omega)
      have d41 : ∀ q, delim (41 :: q) := fun q => .inr (.inl rfl)
      have d44 : ∀ q, delim (44 :: q) := fun q => .inr (.inr (.inl rfl))
      have d32 : ∀ q, delim (32 :: q) := fun q => .inl rfl
      rcases ek with ⟨rfl, rfl⟩ | ⟨hk1, hk2⟩
      · have a5 := f.span (by omega)
        have a6 := f'.span (by omega)
        have j1 : joinT (txtL [a, b]) = a.txt ++ 44 :: 32 :: b.txt := by simp [joinT, txtL, Lib.join_cons, Lib.joinTail]
        have j2 : joinT (txtL [c, d]) = c.txt ++ 44 :: 32 :: d.txt := by simp [joinT, txtL, Lib.join_cons, Lib.joinTail]
        simp [X.txt, j1, j2, frontT] at h
        obtain ⟨e3, e4, h⟩ := span_inj' a5 a6 h
        simp at h
        obtain ⟨e1, h⟩ := txt_inj m a c _ _ hsa ga gc (d44 _) (d44 _) h
        simp at h
        obtain ⟨e2, h⟩ := txt_inj m b d _ _ hsb gb gd (d41 _) (d41 _) h
        exact ⟨by simp [X.same, sameL, a1, a2, a3, a4, e3, e4, e1, e2], by simpa using h⟩
      · have a5 := f.zero (by omega)
        have a6 := f'.zero (by omega)
        have t3 : ∀ (q : Int) (nm : List UInt8) (n lo hi : Int) (tk : Bool) (u v : X), (q = 8 ∨ q = 9 ∨ q = 10 ∨ q = 14 ∨ q = 15 ∨ q = 16 ∨ q = 17 ∨ q = 19 ∨ q = 20) → (X.mk q nm n lo hi tk [u, v]).txt = 40 :: u.txt ++ 32 :: signT q ++ 32 :: v.txt ++ [41] := fun q nm n lo hi tk u v hq => by
          rcases hq with rfl | rfl | rfl | rfl | rfl | rfl | rfl | rfl | rfl <;> simp [X.txt, txtL, binT]
        rw [t3 k _ _ _ _ _ _ _ hk1, t3 k' _ _ _ _ _ _ _ hk2] at h
        simp only [List.cons_append, List.append_assoc, List.cons.injEq, true_and, List.nil_append] at h
        obtain ⟨e1, h⟩ := txt_inj m a c _ _ hsa ga gc (d32 _) (d32 _) h
        simp only [List.cons.injEq, true_and] at h
        obtain ⟨e3, h⟩ := sign_inj hk1 hk2 h
        obtain ⟨e2, h⟩ := txt_inj m b d _ _ hsb gb gd (d41 _) (d41 _) h
        exact ⟨by simp [X.same, sameL, a1, a2, a3, a4, a5, a6, e1, e2, e3], by simpa using h⟩

mutual
theorem same_txt : ∀ x y : X, x.same y = true → x.txt = y.txt
  | .mk k nm n lo hi tk ks, .mk k' nm' n' lo' hi' tk' ks', h => by
    simp only [X.same, Bool.and_eq_true, beq_iff_eq] at h
    obtain ⟨⟨⟨⟨⟨⟨rfl, rfl⟩, rfl⟩, rfl⟩, rfl⟩, e1⟩, e2⟩ := h
    have := same_txtL ks ks' e2
    simp only [X.txt, this, e1]
theorem same_txtL : ∀ l m : List X, sameL l m = true → txtL l = txtL m
  | [], [], _ => rfl
  | [], _ :: _, h => by simp [sameL] at h
  | _ :: _, [], h => by simp [sameL] at h
  | a :: l, b :: m, h => by
    simp only [sameL, Bool.and_eq_true] at h
    simp only [txtL, same_txt a b h.1, same_txtL l m h.2]
end

/-- ONE TEXT JUST WHERE THEY ARE ALIKE -/
theorem inj (a b : X) (_ : a.fit) (_ : b.fit) (ha : ∀ y ∈ a.nodes, Good y) (hb : ∀ y ∈ b.nodes, Good y) : (a.txt == b.txt) = a.same b := by
  rw [Bool.eq_iff_iff]
  refine ⟨fun h => ?_, fun h => by rw [same_txt a b h]; simp⟩
  have h' : a.txt = b.txt := by simpa using h
  exact (txt_inj a.size a b [] [] (Nat.le_refl _) ha hb trivial trivial (by rw [h'])).1
end Go.Proofs.Ytemggoaefohliaa.PT
