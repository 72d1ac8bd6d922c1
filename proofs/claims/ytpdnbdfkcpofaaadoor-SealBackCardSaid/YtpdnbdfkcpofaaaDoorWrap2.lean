/- seal.Wrap, Unwrap. -/
import Derived.Test.YtpdnbdfkcpofaaaDoorWrap
import Derived.Lib.QuietBelow
namespace Go.Proofs.YtpdnbdfkcpofaaaDoor
open Go.RowKit Sbx Go.Sort

def hideX (W k : List UInt8) : List UInt8 := xorS k (stream W 0 32)
def wrapE (m : List UInt8) (v b : Int) (k : List UInt8) : Int := if ¬ (m.length = 32 ∧ k.length = 32) then 20 else placeE v b
def wrapX (W k : List UInt8) : List UInt8 := hideX W k ++ tagS W (hideX W k)
def wrapS (m : List UInt8) (v b : Int) (k : List UInt8) : List UInt8 := if wrapE m v b k = 0 then wrapX (placeW m v.toNat b.toNat) k else []
theorem wrap_cases (m : List UInt8) (v b : Int) (k : List UInt8) :
    (¬ (m.length = 32 ∧ k.length = 32) ∧ wrapE m v b k = 20 ∧ wrapS m v b k = []) ∨ ((m.length = 32 ∧ k.length = 32) ∧ placeE v b ≠ 0 ∧ wrapE m v b k = placeE v b ∧ wrapS m v b k = []) ∨
    ((m.length = 32 ∧ k.length = 32) ∧ placeE v b = 0 ∧ wrapE m v b k = 0 ∧ wrapS m v b k = wrapX (placeW m v.toNat b.toNat) k) := by
  by_cases h1 : m.length = 32 ∧ k.length = 32
  · have he : wrapE m v b k = placeE v b := by unfold wrapE; rw [if_neg (by simpa using h1)]
    by_cases h2 : placeE v b = 0
    · exact .inr (.inr ⟨h1, h2, he.trans h2, by unfold wrapS; rw [if_pos (he.trans h2)]⟩)
    · exact .inr (.inl ⟨h1, h2, he, by unfold wrapS; rw [if_neg (by rw [he]; exact h2)]⟩)
  · have he : wrapE m v b k = 20 := by unfold wrapE; rw [if_pos h1]
    exact .inl ⟨h1, he, by unfold wrapS; rw [if_neg (by omega)]⟩
theorem xor_hide (W k : List UInt8) (hW : W.length = 32) (hk : k.length = 32) (w : World) (hG : Glob w) :
    Calls Tryd.prog 14 #[.string ⟨W.toArray⟩, .int .i64 0, .string ⟨k.toArray⟩] w fun e w' => e = .returned (.tuple #[.string ⟨(hideX W k).toArray⟩, .int .i64 0]) ∧ Below w.heap.size w w' := by
  have wi : withinV W 0 (k.length : Int) = 0 := withinV_ok.2 (by omega)
  have c2 := xor_any W 0 k w hG (by omega) (by omega) (by omega) (by omega)
  have x2 : xorV W 0 k = hideX W k := by unfold xorV; rw [if_pos wi, hk]; rfl
  rw [wi, x2] at c2
  exact c2

set_option maxRecDepth 100000 in
set_option maxHeartbeats 1000000 in
theorem wrap_any (m : List UInt8) (v b : Int) (k : List UInt8) (w : World) (hG : Glob w) :
    Calls Tryd.prog 26 #[.string ⟨m.toArray⟩, .int .i64 v, .int .i64 b, .string ⟨k.toArray⟩] w fun e w' => e = .returned (.tuple #[.string ⟨(wrapS m v b k).toArray⟩, .int .i64 (wrapE m v b k)]) ∧ Below w.heap.size w w' := by
  have HS := St.start hG
  rcases wrap_cases m v b k with ⟨hd, he, hs⟩ | ⟨⟨hm, hk⟩, hp, he, hs⟩ | ⟨⟨hm, hk⟩, hp, he, hs⟩
  · rw [he, hs]
    have HD := Lib.hid (show decide (m.length = 32 ∧ k.length = 32) = false by simpa using hd)
    clear he hs hd hG
    go_enter Tryd.func26, Tryd.ntmps26
    go_wp2_with (go_at_call 37; refine (St.still (St.alloc HS _) (keys_two m k _ _ (by simp) (by simp))).mono ?_; clear HS; rintro e w' ⟨rfl, HS⟩; rw [HD.out])
    go_ret2
    exact ⟨rfl, HS.out.2⟩
  · rw [he, hs]
    have HD := Lib.hid (show decide (m.length = 32 ∧ k.length = 32) = true by simp [hm, hk])
    have c1 := fun W (h : Glob W) => place_any m v b W h (by omega)
    rw [show placeS m v b = [] from by unfold placeS; rw [if_neg hp]] at c1
    obtain ⟨e, ee⟩ : ∃ e, e = placeE v b := ⟨_, rfl⟩
    rw [← ee] at c1 hp ⊢
    have hne : (e != 0) = true := by rw [bne_iff_ne]; exact hp
    have C := Lib.hid c1
    clear he hs hm hk c1 hp ee hG
    go_enter Tryd.func26, Tryd.ntmps26
    go_wp2_with (first
      | (go_at_call 37; refine (St.still (St.alloc HS _) (keys_two m k _ _ (by simp) (by simp))).mono ?_; clear HS; rintro e w' ⟨rfl, HS⟩; rw [HD.out])
      | (go_at_call 41; refine (St.callG HS C.out).mono ?_; clear HS; rintro e w' ⟨rfl, HS⟩))
    go_ret2
    exact ⟨rfl, HS.out.2⟩
  · rw [he, hs]
    have HD := Lib.hid (show decide (m.length = 32 ∧ k.length = 32) = true by simp [hm, hk])
    have c1 := fun W (h : Glob W) => place_any m v b W h (by omega)
    rw [show placeS m v b = placeW m v.toNat b.toNat from by unfold placeS; rw [if_pos hp], hp] at c1
    obtain ⟨P, eP⟩ : ∃ P, P = placeW m v.toNat b.toNat := ⟨_, rfl⟩
    have lP : P.length = 32 := by rw [eP]; exact placeW_length _ _ _
    rw [← eP] at c1 ⊢
    have c2 := fun W (h : Glob W) => xor_hide P k lP hk W h
    unfold wrapX
    obtain ⟨X, eX⟩ : ∃ X, X = hideX P k := ⟨_, rfl⟩
    have lX : X.length = 32 := by rw [eX]; unfold hideX; rw [xorS_length, hk]
    rw [← eX] at c2 ⊢
    have c3 := fun W (h : Glob W) => tag_any P X W h (by omega) (by omega)
    obtain ⟨T, eT⟩ : ∃ T, T = tagS P X := ⟨_, rfl⟩
    have lT : T.length = 16 := by rw [eT]; exact tagS_length _ _
    rw [← eT] at c3 ⊢
    have le : ¬ 9223372036854775807 < X.length + T.length := by omega
    rw [← str_app]
    have C := Lib.hid (And.intro c1 (And.intro c2 c3))
    clear he hs hm hk c1 c2 c3 hp eP lP eX eT hG
    go_enter Tryd.func26, Tryd.ntmps26
    go_wp2_with (first
      | (go_at_call 37; refine (St.still (St.alloc HS _) (keys_two m k _ _ (by simp) (by simp))).mono ?_; clear HS; rintro e w' ⟨rfl, HS⟩; rw [HD.out])
      | (go_at_call 41; refine (St.callG HS C.out.1).mono ?_; clear HS; rintro e w' ⟨rfl, HS⟩)
      | (go_at_call 14; refine (St.callG HS C.out.2.1).mono ?_; clear HS; rintro e w' ⟨rfl, HS⟩)
      | (go_at_call 42; refine (St.callG HS C.out.2.2).mono ?_; clear HS; rintro e w' ⟨rfl, HS⟩))
    go_ret2
    exact ⟨rfl, HS.out.2⟩

def unwrapE (m : List UInt8) (v b : Int) (s : List UInt8) : Int :=
  if m.length ≠ 32 then 20 else if placeE v b ≠ 0 then placeE v b else if s.length ≠ 48 then 23 else if tagS (placeW m v.toNat b.toNat) (s.take 32) ≠ s.drop 32 then 22 else 0
def unwrapS (m : List UInt8) (v b : Int) (s : List UInt8) : List UInt8 := if unwrapE m v b s = 0 then hideX (placeW m v.toNat b.toNat) (s.take 32) else []
theorem unwrap_cases (m : List UInt8) (v b : Int) (s : List UInt8) :
    (m.length ≠ 32 ∧ unwrapE m v b s = 20 ∧ unwrapS m v b s = []) ∨ (m.length = 32 ∧ placeE v b ≠ 0 ∧ unwrapE m v b s = placeE v b ∧ unwrapS m v b s = []) ∨
    (m.length = 32 ∧ placeE v b = 0 ∧ s.length ≠ 48 ∧ unwrapE m v b s = 23 ∧ unwrapS m v b s = []) ∨
    (m.length = 32 ∧ placeE v b = 0 ∧ s.length = 48 ∧ tagS (placeW m v.toNat b.toNat) (s.take 32) ≠ s.drop 32 ∧ unwrapE m v b s = 22 ∧ unwrapS m v b s = []) ∨
    (m.length = 32 ∧ placeE v b = 0 ∧ s.length = 48 ∧ tagS (placeW m v.toNat b.toNat) (s.take 32) = s.drop 32 ∧ unwrapE m v b s = 0 ∧ unwrapS m v b s = hideX (placeW m v.toNat b.toNat) (s.take 32)) := by
  by_cases h1 : m.length = 32
  · by_cases h2 : placeE v b = 0
    · by_cases h3 : s.length = 48
      · by_cases h4 : tagS (placeW m v.toNat b.toNat) (s.take 32) = s.drop 32
        · have he : unwrapE m v b s = 0 := by unfold unwrapE; rw [if_neg (by simpa using h1), if_neg (by simpa using h2), if_neg (by simpa using h3), if_neg (by simpa using h4)]
          exact .inr (.inr (.inr (.inr ⟨h1, h2, h3, h4, he, by unfold unwrapS; rw [if_pos he]⟩)))
        · have he : unwrapE m v b s = 22 := by unfold unwrapE; rw [if_neg (by simpa using h1), if_neg (by simpa using h2), if_neg (by simpa using h3), if_pos h4]
          exact .inr (.inr (.inr (.inl ⟨h1, h2, h3, h4, he, by unfold unwrapS; rw [if_neg (by omega)]⟩)))
      · have he : unwrapE m v b s = 23 := by unfold unwrapE; rw [if_neg (by simpa using h1), if_neg (by simpa using h2), if_pos h3]
        exact .inr (.inr (.inl ⟨h1, h2, h3, he, by unfold unwrapS; rw [if_neg (by omega)]⟩))
    · have he : unwrapE m v b s = placeE v b := by unfold unwrapE; rw [if_neg (by simpa using h1), if_pos h2]
      exact .inr (.inl ⟨h1, h2, he, by unfold unwrapS; rw [if_neg (by omega)]⟩)
  · have he : unwrapE m v b s = 20 := by unfold unwrapE; rw [if_pos h1]
    exact .inl ⟨h1, he, by unfold unwrapS; rw [if_neg (by omega)]⟩

set_option maxRecDepth 100000 in
set_option maxHeartbeats 1000000 in
theorem unwrap_any (m : List UInt8) (v b : Int) (s : List UInt8) (w : World) (hG : Glob w) :
    Calls Tryd.prog 28 #[.string ⟨m.toArray⟩, .int .i64 v, .int .i64 b, .string ⟨s.toArray⟩] w fun e w' => e = .returned (.tuple #[.string ⟨(unwrapS m v b s).toArray⟩, .int .i64 (unwrapE m v b s)]) ∧ Below w.heap.size w w' := by
  have HS := St.start hG
  rcases unwrap_cases m v b s with ⟨hd, he, hs⟩ | ⟨hm, hp, he, hs⟩ | hh
  · rw [he, hs]
    have HD := Lib.hid (show decide (m.length = 32) = false by simpa using hd)
    clear he hs hd hG
    go_enter Tryd.func28, Tryd.ntmps28
    go_wp2_with (go_at_call 37; refine (St.still (St.alloc HS _) (keys_one m _ _ (by simp))).mono ?_; clear HS; rintro e w' ⟨rfl, HS⟩; rw [HD.out])
    go_ret2
    exact ⟨rfl, HS.out.2⟩
  · rw [he, hs]
    have HD := Lib.hid (show decide (m.length = 32) = true by simpa using hm)
    have c1 := fun W (h : Glob W) => place_any m v b W h (by omega)
    rw [show placeS m v b = [] from by unfold placeS; rw [if_neg hp]] at c1
    obtain ⟨e, ee⟩ : ∃ e, e = placeE v b := ⟨_, rfl⟩
    rw [← ee] at c1 hp ⊢
    have hne : (e != 0) = true := by rw [bne_iff_ne]; exact hp
    have C := Lib.hid c1
    clear he hs hm c1 hp ee hG
    go_enter Tryd.func28, Tryd.ntmps28
    go_wp2_with (first
      | (go_at_call 37; refine (St.still (St.alloc HS _) (keys_one m _ _ (by simp))).mono ?_; clear HS; rintro e w' ⟨rfl, HS⟩; rw [HD.out])
      | (go_at_call 41; refine (St.callG HS C.out).mono ?_; clear HS; rintro e w' ⟨rfl, HS⟩))
    go_ret2
    exact ⟨rfl, HS.out.2⟩
  · have h1 : m.length = 32 ∧ placeE v b = 0 := by rcases hh with ⟨a, b, _⟩ | ⟨a, b, _⟩ | ⟨a, b, _⟩ <;> exact ⟨a, b⟩
    obtain ⟨hm, hp⟩ := h1
    have HD := Lib.hid (show decide (m.length = 32) = true by simpa using hm)
    have c1 := fun W (h : Glob W) => place_any m v b W h (by omega)
    rw [show placeS m v b = placeW m v.toNat b.toNat from by unfold placeS; rw [if_pos hp], hp] at c1
    obtain ⟨P, eP⟩ : ∃ P, P = placeW m v.toNat b.toNat := ⟨_, rfl⟩
    have lP : P.length = 32 := by rw [eP]; exact placeW_length _ _ _
    rw [← eP] at c1 hh
    have HH := hh
    clear hh
    rcases HH with ⟨_, _, hl, he, hs⟩ | hh
    · rw [he, hs]
      have hne : ((s.length : Int) != 48) = true := by rw [bne_iff_ne]; omega
      have C := Lib.hid c1
      clear he hs hm hp c1 eP lP hl hG
      go_enter Tryd.func28, Tryd.ntmps28
      go_wp2_with (first
        | (go_at_call 37; refine (St.still (St.alloc HS _) (keys_one m _ _ (by simp))).mono ?_; clear HS; rintro e w' ⟨rfl, HS⟩; rw [HD.out])
        | (go_at_call 41; refine (St.callG HS C.out).mono ?_; clear HS; rintro e w' ⟨rfl, HS⟩))
      go_ret2
      exact ⟨rfl, HS.out.2⟩
    · have hl : s.length = 48 := by rcases hh with ⟨_, _, h, _⟩ | ⟨_, _, h, _⟩ <;> exact h
      have hne : ((s.length : Int) != 48) = false := by rw [bne_eq_false_iff_eq]; omega
      have s1 := fun W => run_slice_to (P := Tryd.prog) (t := 9) Tryd.underlying9 s .i64 32 (by omega) 32 rfl W
      have s2 := fun W => run_slice_from (P := Tryd.prog) (t := 9) Tryd.underlying9 s .i64 32 (by omega) 32 rfl W
      obtain ⟨A, eA⟩ : ∃ A, A = s.take 32 := ⟨_, rfl⟩
      obtain ⟨B, eB⟩ : ∃ A, A = s.drop 32 := ⟨_, rfl⟩
      have lA : A.length = 32 := by rw [eA, List.length_take]; omega
      have lB : B.length = 16 := by rw [eB, List.length_drop]; omega
      rw [← eA] at s1 hh
      rw [← eB] at s2 hh
      have c2 := fun W (h : Glob W) => xor_hide P A lP lA W h
      have c3 := fun W (h : Glob W) => tag_any P A W h (by omega) (by omega)
      obtain ⟨T, eT⟩ : ∃ T, T = tagS P A := ⟨_, rfl⟩
      have lT : T.length = 16 := by rw [eT]; exact tagS_length _ _
      rw [← eT] at c3 hh
      have c4 := fun W => same_any T B W (by omega) (by omega)
      obtain ⟨X, eX⟩ : ∃ X, X = hideX P A := ⟨_, rfl⟩
      rw [← eX] at c2 hh
      obtain ⟨r, er⟩ : ∃ r, r = (T == B) := ⟨_, rfl⟩
      rw [← er] at c4
      have C := Lib.hid (And.intro c1 (And.intro c2 (And.intro c3 c4)))
      have ER := Lib.hid er
      have HH := Lib.hid hh
      clear hm hp c1 c2 c3 c4 eP lP eA eB lA lB eT lT eX hG hl er hh
      obtain ⟨E, eE⟩ : ∃ E, E = unwrapE m v b s := ⟨_, rfl⟩
      obtain ⟨S, eS⟩ : ∃ E, E = unwrapS m v b s := ⟨_, rfl⟩
      rw [← eE, ← eS]
      have HES : Hid ((r = false ∧ E = 22 ∧ S = []) ∨ (r = true ∧ E = 0 ∧ S = X)) := by
        rw [eE, eS, ER.out]
        rcases HH.out with ⟨_, _, _, h, h1, h2⟩ | ⟨_, _, _, h, h1, h2⟩
        · exact .inl ⟨by simpa using h, h1, h2⟩
        · exact .inr ⟨by simpa using h, h1, h2⟩
      clear eE eS HH ER
      go_enter Tryd.func28, Tryd.ntmps28
      go_wp2_with (first
        | (go_at_call 37; refine (St.still (St.alloc HS _) (keys_one m _ _ (by simp))).mono ?_; clear HS; rintro e w' ⟨rfl, HS⟩; rw [HD.out])
        | (go_at_call 41; refine (St.callG HS C.out.1).mono ?_; clear HS; rintro e w1 ⟨rfl, HS⟩))
      have cl : ∀ d os, Calls Tryd.prog 42 #[.string ⟨P.toArray⟩, .string ⟨A.toArray⟩] (grow (redrawn w1 d) os) fun e w' => e = .returned (.string ⟨T.toArray⟩) ∧ ∃ p : Regrown, w' = grow (redrawn w1 p.d) p.os := fun d os => Calls.regrown_of (C.out.2.2.1 _ (HS.out.1.below (below_regrown w1 d os)))
      have c1 : ∀ d os, Calls Tryd.prog 40 #[.string ⟨T.toArray⟩, .string ⟨B.toArray⟩] (grow (redrawn w1 d) os) fun e w' => e = .returned (.bool r) ∧ ∃ p : Regrown, w' = grow (redrawn w1 p.d) p.os := fun d os => Calls.regrown_of (C.out.2.2.2 _)
      refine wp_region_quiet_below (by kernel_rfl) (by kernel_rfl) ?_
      repeat (first | go_big_quiet_step ((first | (with_reducible exact cl _ _) | (with_reducible exact c1 _ _))) | quiet_step ((first | (with_reducible exact cl _ _) | (with_reducible exact c1 _ _))))
      refine wpQuiet_nil ?_
      intro _ hw'
      obtain ⟨⟨dq, osq⟩, hw''⟩ := hw'
      subst hw''
      have HS2 := St.below HS (below_regrown w1 dq osq)
      clear cl c1 HS
      have HS := HS2
      clear HS2
      generalize grow (redrawn w1 dq) osq = w2 at *
      rcases HES.out with ⟨rfl, rfl, rfl⟩ | ⟨rfl, rfl, rfl⟩
      · clear HES
        go_wp2
        go_ret2
        exact ⟨rfl, HS.out.2⟩
      · clear HES
        go_wp2_with (go_at_call 14; refine (St.callG HS C.out.2.1).mono ?_; clear HS; rintro e w' ⟨rfl, HS⟩)
        go_ret2
        exact ⟨rfl, HS.out.2⟩
end Go.Proofs.YtpdnbdfkcpofaaaDoor
