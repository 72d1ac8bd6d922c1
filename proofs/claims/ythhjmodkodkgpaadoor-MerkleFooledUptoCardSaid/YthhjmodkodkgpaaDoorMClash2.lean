/- strongboxref19.Clash. -/
import Derived.Test.YthhjmodkodkgpaaDoorMClash
namespace Go.Proofs.YthhjmodkodkgpaaDoor
open Go.RowKit Sbx Go.Sort

set_option maxRecDepth 100000 in
set_option maxHeartbeats 2000000 in
theorem rclash_err1 (root : List UInt8) (n i : Int) (one : List UInt8) (P : List (List UInt8)) (two : List UInt8) (Q : List (List UInt8)) (A B : Option Addr) (cap cap2 : Nat) (w : World) (hrl : root.length ≤ 9223372036854775807) (hl : one.length ≤ 140737488349000) (hPl : P.length ≤ 1000000000000) (hcap : P.length ≤ cap)
    (hR : Reads w w.heap.size A P.length (fun j => .string ⟨(P.getD j []).toArray⟩)) (he : mcheck root n i one P ≠ 0) :
    Calls Tryd.prog 33 #[.string ⟨root.toArray⟩, .int .i64 n, .int .i64 i, .string ⟨one.toArray⟩, .slice A P.length cap, .string ⟨two.toArray⟩, .slice B Q.length cap2] w fun e w' => e = .returned (clashR [] [] (mcheck root n i one P)) ∧ Below w.heap.size w w' := by
  have c1 := rcheck_any root n i one P A cap w hl hrl hPl hcap hR
  obtain ⟨x, ex⟩ : ∃ x, x = mcheck root n i one P := ⟨_, rfl⟩
  rw [← ex] at c1 he ⊢
  have hx : (x != 0) = true := by rw [bne_iff_ne]; exact he
  have C := Lib.hid c1
  clear c1 ex he hR hl
  unfold clashR
  go_enter Tryd.func33, Tryd.ntmps33
  go_wp2_with (go_at_call 25; refine C.out.mono ?_; clear C; rintro e w' ⟨rfl, hB⟩)
  go_ret3
  exact ⟨rfl, hB⟩

set_option maxRecDepth 100000 in
set_option maxHeartbeats 2000000 in
theorem rclash_err2 (root : List UInt8) (n i : Int) (one : List UInt8) (P : List (List UInt8)) (two : List UInt8) (Q : List (List UInt8)) (A B : Option Addr) (cap cap2 : Nat) (w : World) (hrl : root.length ≤ 9223372036854775807) (hl : one.length ≤ 140737488349000) (hPl : P.length ≤ 1000000000000) (hcap : P.length ≤ cap)
    (hl2 : two.length ≤ 140737488349000) (hQl : Q.length ≤ 1000000000000) (hcap2 : Q.length ≤ cap2) (hR : Reads w w.heap.size A P.length (fun j => .string ⟨(P.getD j []).toArray⟩)) (hR2 : Reads w w.heap.size B Q.length (fun j => .string ⟨(Q.getD j []).toArray⟩)) (h1 : mcheck root n i one P = 0) (he : mcheck root n i two Q ≠ 0) :
    Calls Tryd.prog 33 #[.string ⟨root.toArray⟩, .int .i64 n, .int .i64 i, .string ⟨one.toArray⟩, .slice A P.length cap, .string ⟨two.toArray⟩, .slice B Q.length cap2] w fun e w' => e = .returned (clashR [] [] (mcheck root n i two Q)) ∧ Below w.heap.size w w' := by
  have HS := Bl.start w
  have c1 := rcheck_any root n i one P A cap w hl hrl hPl hcap hR
  have c2 := fun W h => rcheck_any root n i two Q B cap2 W hl2 hrl hQl hcap2 h
  obtain ⟨x, ex⟩ : ∃ x, x = mcheck root n i two Q := ⟨_, rfl⟩
  rw [h1] at c1
  rw [← ex] at c2 he ⊢
  have hx : (x != 0) = true := by rw [bne_iff_ne]; exact he
  have C := Lib.hid (And.intro c1 (And.intro c2 hR2))
  clear c1 c2 ex he hR hR2 hl hl2 h1 hPl hQl hcap hcap2
  unfold clashR
  go_enter Tryd.func33, Tryd.ntmps33
  go_wp2_with (first
    | (go_at_call 25; with_reducible refine (Kp.call HS C.out.1).mono ?_; clear HS; rintro e w' ⟨rfl, HS2⟩)
    | (go_at_call 25; refine (Kp.call HS2 (C.out.2.1 _ (C.out.2.2.belowW (Bl.bel HS2)))).mono ?_; clear HS2; rintro e w' ⟨rfl, HS3⟩))
  go_ret3
  exact ⟨rfl, HS3.out⟩

set_option maxRecDepth 100000 in
set_option maxHeartbeats 2000000 in
theorem rclash_eq (root : List UInt8) (n i : Int) (one : List UInt8) (P : List (List UInt8)) (Q : List (List UInt8)) (A B : Option Addr) (cap cap2 : Nat) (w : World) (hrl : root.length ≤ 9223372036854775807) (hl : one.length ≤ 140737488349000) (hPl : P.length ≤ 1000000000000) (hcap : P.length ≤ cap)
    (hQl : Q.length ≤ 1000000000000) (hcap2 : Q.length ≤ cap2) (hR : Reads w w.heap.size A P.length (fun j => .string ⟨(P.getD j []).toArray⟩)) (hR2 : Reads w w.heap.size B Q.length (fun j => .string ⟨(Q.getD j []).toArray⟩)) (h1 : mcheck root n i one P = 0) (h2 : mcheck root n i one Q = 0) :
    Calls Tryd.prog 33 #[.string ⟨root.toArray⟩, .int .i64 n, .int .i64 i, .string ⟨one.toArray⟩, .slice A P.length cap, .string ⟨one.toArray⟩, .slice B Q.length cap2] w fun e w' => e = .returned (clashR [] [] 1) ∧ Below w.heap.size w w' := by
  have HS := Bl.start w
  have c1 := rcheck_any root n i one P A cap w hl hrl hPl hcap hR
  have c2 := fun W h => rcheck_any root n i one Q B cap2 W hl hrl hQl hcap2 h
  rw [h1] at c1
  rw [h2] at c2
  have C := Lib.hid (And.intro c1 (And.intro c2 hR2))
  clear c1 c2 hR hR2 hl h1 h2 hPl hQl hcap hcap2
  unfold clashR
  go_enter Tryd.func33, Tryd.ntmps33
  go_wp2_with (first
    | (go_at_call 25; with_reducible refine (Kp.call HS C.out.1).mono ?_; clear HS; rintro e w' ⟨rfl, HS2⟩)
    | (go_at_call 25; refine (Kp.call HS2 (C.out.2.1 _ (C.out.2.2.belowW (Bl.bel HS2)))).mono ?_; clear HS2; rintro e w' ⟨rfl, HS3⟩))
  go_ret3
  exact ⟨rfl, HS3.out⟩

set_option maxRecDepth 100000 in
set_option maxHeartbeats 4000000 in
theorem rclash_found (root : List UInt8) (N I : Nat) (one : List UInt8) (P : List (List UInt8)) (two : List UInt8) (Q : List (List UInt8)) (A B : Option Addr) (cap cap2 : Nat) (w : World) (hrl : root.length ≤ 9223372036854775807) (hl : one.length ≤ 140737488348000) (hPl : P.length ≤ 1000000000000) (hcap : P.length ≤ cap)
    (hl2 : two.length ≤ 140737488348000) (hQl : Q.length ≤ 1000000000000) (hcap2 : Q.length ≤ cap2) (hR : Reads w w.heap.size A P.length (fun j => .string ⟨(P.getD j []).toArray⟩)) (hR2 : Reads w w.heap.size B Q.length (fun j => .string ⟨(Q.getD j []).toArray⟩))
    (h1 : mcheck root N I one P = 0) (h2 : mcheck root N I two Q = 0) (hne : one ≠ two) (hh : Nat) (hhS : hh ≤ (msides N I).length) (hg : goodAt (msides N I) one P two Q hh = true) (hb : ∀ j, j < hh → goodAt (msides N I) one P two Q j = false) :
    Calls Tryd.prog 33 #[.string ⟨root.toArray⟩, .int .i64 (N : Int), .int .i64 (I : Int), .string ⟨one.toArray⟩, .slice A P.length cap, .string ⟨two.toArray⟩, .slice B Q.length cap2] w fun e w' => e = .returned (clashR (mtext (msides N I) one P hh) (mtext (msides N I) two Q hh) 0) ∧ Below w.heap.size w w' := by
  have HS := Bl.start w
  have c1 := rcheck_any root N I one P A cap w (by omega) hrl hPl hcap hR
  have c2 := fun W h => rcheck_any root N I two Q B cap2 W (by omega) hrl hQl hcap2 h
  obtain ⟨_, n1, n2, i0, i1, p1, p2, _⟩ := mcheck_zero h1
  obtain ⟨_, _, _, _, _, q1, q2, _⟩ := mcheck_zero h2
  rw [Int.toNat_natCast, Int.toNat_natCast] at p1 q1
  rw [h1] at c1
  rw [h2] at c2
  have c3 := fun W h => rtexts_any N I one P A cap W (by omega) (by omega) (by omega) (getD_le_of_all P p2) p1 hcap h
  have c4 := fun W h => rtexts_any N I two Q B cap2 W (by omega) (by omega) (by omega) (getD_le_of_all Q q2) q1 hcap2 h
  have hlen := msides_length N I
  obtain ⟨S, eS⟩ : ∃ S, S = msides N I := ⟨_, rfl⟩
  rw [← eS] at c3 c4 hlen hhS hg hb p1 q1 ⊢
  have hle1 := mtext_le S one P (getD_le_of_all P p2)
  have hle2 := mtext_le S two Q (getD_le_of_all Q q2)
  have hot : (one == two) = false := by simpa using hne
  have hSl : S.length ≤ 4096 := by omega
  have C := Lib.hid (And.intro c1 (And.intro c2 (And.intro c3 c4)))
  have HR := Lib.hid (And.intro hR hR2)
  have HX := Lib.hid (And.intro hg (And.intro hb (And.intro hle1 (And.intro hle2 (And.intro hl hl2)))))
  clear c1 c2 c3 c4 eS h1 h2 p1 p2 q1 q2 hR hR2 hl hl2 hPl hQl hcap hcap2 hg hb hle1 hle2 hlen hne
  unfold clashR
  go_enter Tryd.func33, Tryd.ntmps33
  go_wp2_with (first
    | (go_at_call 25; with_reducible refine (Kp.call HS C.out.1).mono ?_; clear HS; rintro e w' ⟨rfl, HS2⟩)
    | (go_at_call 25; refine (Kp.call HS2 (C.out.2.1 _ (HR.out.2.belowW (Bl.bel HS2)))).mono ?_; clear HS2; rintro e w' ⟨rfl, HS3⟩)
    | (go_at_call 56; refine (Kp.list HS3 (C.out.2.2.1 _ (HR.out.1.belowW (Bl.bel HS3)))).mono ?_; clear HS3; rintro e w4 ⟨va, rfl, HA⟩
       obtain ⟨ga, ca, rfl, _⟩ := Lst.shape HA.out.2 (strs_mtexts_ne _ _ _ _)
       rw [strs_length, mtexts_length])
    | (go_at_call 56; refine (Kp.list HA (C.out.2.2.2 _ (HR.out.2.belowW HA.out.1))).mono ?_; clear HA; rintro e w5 ⟨vb, rfl, HB⟩
       obtain ⟨gb, cb, rfl, _⟩ := Lst.shape HB.out.2 (strs_mtexts_ne _ _ _ _)
       rw [strs_length, mtexts_length]))
  have HB0 := HB
  go_loopw [20] (fun v20 wr => ∃ k : Nat, k ≤ hh ∧ v20 = .int .i64 (k : Int) ∧ Hid (And2 (And2 (Bl w) (LstW _ 9 (.slice (some ⟨ga, 0, none⟩) (strs (mtexts S one P S.length)).length ca) (strs (mtexts S one P S.length)))) (LstW _ 9 (.slice (some ⟨gb, 0, none⟩) (strs (mtexts S two Q S.length)).length cb) (strs (mtexts S two Q S.length))) wr))
    (fun v20 _ => hh - (intOf v20).toNat)
  case atStart => exact ⟨0, by omega, rfl, HB0⟩
  case round =>
    clear HB HB0
    obtain ⟨k, hk, rfl, HB⟩ := hrel
    have ra := Lst.cell HB.out.1.2 k _ (strs_getD _ k (by rw [mtexts_length]; omega))
    have rb := Lst.cell HB.out.2 k _ (strs_getD _ k (by rw [mtexts_length]; omega))
    rw [mtexts_getD _ _ _ _ _ (by omega)] at ra rb
    have la := HX.out.2.2.1 k
    have lb := HX.out.2.2.2.1 k
    have gk : k = hh → mtext S one P k ≠ mtext S two Q k ∧ sha (mtext S one P k) = sha (mtext S two Q k) := fun e => by
      have := HX.out.1
      rw [← e] at this
      simpa [goodAt] using this
    have bk : k < hh → mtext S one P k ≠ mtext S two Q k → sha (mtext S one P k) ≠ sha (mtext S two Q k) := fun e e2 => by
      have := HX.out.2.1 k e
      simpa [goodAt, e2] using this
    have hres : k = hh → clashR (mtext S one P k) (mtext S two Q k) 0 = clashR (mtext S one P hh) (mtext S two Q hh) 0 := fun e => by rw [e]
    unfold clashR at hres
    obtain ⟨R, eR⟩ : ∃ R : Value, R = Value.tuple #[Value.string ⟨(mtext S one P hh).toArray⟩, Value.string ⟨(mtext S two Q hh).toArray⟩, Value.int .i64 0] := ⟨_, rfl⟩
    rw [← eR] at hres
    obtain ⟨Ta, ea⟩ : ∃ T, T = mtext S one P k := ⟨_, rfl⟩
    obtain ⟨Tb, eb⟩ : ∃ T, T = mtext S two Q k := ⟨_, rfl⟩
    rw [← ea] at ra la gk bk hres
    rw [← eb] at rb lb gk bk hres
    have s1 := fun W => rsum_any Ta W (by have := HX.out.2.2.2.2.1; omega)
    have s2 := fun W => rsum_any Tb W (by have := HX.out.2.2.2.2.2; omega)
    obtain ⟨Da, eDa⟩ : ∃ D, D = sha Ta := ⟨_, rfl⟩
    obtain ⟨Db, eDb⟩ : ∃ D, D = sha Tb := ⟨_, rfl⟩
    rw [← eDa] at s1 gk bk
    rw [← eDb] at s2 gk bk
    have k0 : (0 : Int) ≤ (k : Int) := by omega
    have kS : (k : Int) < (S.length : Int) + 1 := by omega
    have kh : (k : Int) ≤ 4096 := by omega
    have Z := Lib.hid (And.intro s1 s2)
    have CA : ∀ W0 W, LstW W0 9 (.slice (some ⟨ga, 0, none⟩) (strs (mtexts S one P S.length)).length ca) (strs (mtexts S one P S.length)) W → W.cell? ⟨ga, k, none⟩ = some (.string ⟨Ta.toArray⟩) := fun W0 W h => by
      have := Lst.cell h k _ (strs_getD _ k (by rw [mtexts_length]; omega))
      rwa [mtexts_getD _ _ _ _ _ (by omega), ← ea] at this
    have CB : ∀ W0 W, LstW W0 9 (.slice (some ⟨gb, 0, none⟩) (strs (mtexts S two Q S.length)).length cb) (strs (mtexts S two Q S.length)) W → W.cell? ⟨gb, k, none⟩ = some (.string ⟨Tb.toArray⟩) := fun W0 W h => by
      have := Lst.cell h k _ (strs_getD _ k (by rw [mtexts_length]; omega))
      rwa [mtexts_getD _ _ _ _ _ (by omega), ← eb] at this
    have CC := Lib.hid (And.intro CA CB)
    clear s1 s2 ea eb eDa eDb la lb CA CB rb
    by_cases hkh : k < hh
    · have hcond : (Ta == Tb) = true ∨ (Ta == Tb) = false ∧ (Da == Db) = false := by
        by_cases hT : Ta = Tb
        · exact .inl (by simpa using hT)
        · exact .inr ⟨by simpa using hT, by simpa using bk hkh hT⟩
      clear gk bk hres eR
      rcases hcond with hq | ⟨hq, hq2⟩
      all_goals
        go_wp2_with (first
          | (go_at_call 34; with_reducible refine (Kp.call HB (Z.out.1 _)).mono ?_; clear HB ra; rintro e w6 ⟨rfl, HB1⟩
             have rb6 := CC.out.2 _ _ HB1.out.2)
          | (go_at_call 34; with_reducible refine (Kp.call HB1 (Z.out.2 _)).mono ?_; clear rb6; rintro e w7 ⟨rfl, HB2⟩
             have ra7 := CC.out.1 _ _ HB2.out.1.2
             have rb7 := CC.out.2 _ _ HB2.out.2))
        go_region
        go_wp2
        go_roundw
        case rel => exact ⟨k + 1, by omega, by go_num, Kp.keep _ _ HB2.out (Below.refl _ _).drew⟩
        case measure => simp [intOf]; omega
    · have hke : k = hh := by omega
      have hq : (Ta == Tb) = false := by simpa using (gk hke).1
      have hq2 : (Da == Db) = true := by simpa using (gk hke).2
      have HRes := Lib.hid (hres hke)
      have HER := Lib.hid eR
      clear gk bk hres eR hke hkh
      go_wp2_with (first
        | (go_at_call 34; with_reducible refine (Kp.call HB (Z.out.1 _)).mono ?_; clear HB ra; rintro e w6 ⟨rfl, HB1⟩
           have rb6 := CC.out.2 _ _ HB1.out.2)
        | (go_at_call 34; with_reducible refine (Kp.call HB1 (Z.out.2 _)).mono ?_; clear rb6; rintro e w7 ⟨rfl, HB2⟩
           have ra7 := CC.out.1 _ _ HB2.out.1.2
           have rb7 := CC.out.2 _ _ HB2.out.2))
      go_region
      go_wp2
      go_region
      go_wp2
      go_ret3
      exact ⟨by rw [← HER.out, ← HRes.out]; rfl, HB2.out.1.1.drew.drew⟩

theorem rclash_any (root : List UInt8) (n i : Int) (one : List UInt8) (P : List (List UInt8)) (two : List UInt8) (Q : List (List UInt8)) (A B : Option Addr) (cap cap2 : Nat) (w : World) (hrl : root.length ≤ 9223372036854775807) (hl : one.length ≤ 140737488348000) (hPl : P.length ≤ 1000000000000) (hcap : P.length ≤ cap)
    (hl2 : two.length ≤ 140737488348000) (hQl : Q.length ≤ 1000000000000) (hcap2 : Q.length ≤ cap2) (hR : Reads w w.heap.size A P.length (fun j => .string ⟨(P.getD j []).toArray⟩)) (hR2 : Reads w w.heap.size B Q.length (fun j => .string ⟨(Q.getD j []).toArray⟩)) :
    Calls Tryd.prog 33 #[.string ⟨root.toArray⟩, .int .i64 n, .int .i64 i, .string ⟨one.toArray⟩, .slice A P.length cap, .string ⟨two.toArray⟩, .slice B Q.length cap2] w fun e w' => e = .returned (clashR (clashV root n i one P two Q).1 (clashV root n i one P two Q).2.1 (clashV root n i one P two Q).2.2) ∧ Below w.heap.size w w' := by
  unfold clashV
  by_cases h1 : mcheck root n i one P = 0
  · rw [if_neg (by simpa using h1)]
    by_cases h2 : mcheck root n i two Q = 0
    · rw [if_neg (by simpa using h2)]
      by_cases h3 : one = two
      · subst h3
        rw [if_pos rfl]
        exact rclash_eq root n i one P Q A B cap cap2 w hrl (by omega) hPl hcap hQl hcap2 hR hR2 h1 h2
      · rw [if_neg h3]
        obtain ⟨a1, a2, a3⟩ := clash_good h1 h2 h3
        obtain ⟨_, n1, _, i0, _⟩ := mcheck_zero h1
        obtain ⟨N, rfl⟩ : ∃ N : Nat, n = N := ⟨n.toNat, by omega⟩
        obtain ⟨I, rfl⟩ : ∃ I : Nat, i = I := ⟨i.toNat, by omega⟩
        rw [Int.toNat_natCast, Int.toNat_natCast] at a1 a2 a3 ⊢
        exact rclash_found root N I one P two Q A B cap cap2 w hrl hl hPl hcap hl2 hQl hcap2 hR hR2 h1 h2 h3 _ a1 a2 a3
    · rw [if_pos h2]
      exact rclash_err2 root n i one P two Q A B cap cap2 w hrl (by omega) hPl hcap (by omega) hQl hcap2 hR hR2 h1 h2
  · rw [if_pos h1]
    exact rclash_err1 root n i one P two Q A B cap cap2 w hrl (by omega) hPl hcap hR h1
end Go.Proofs.YthhjmodkodkgpaaDoor
