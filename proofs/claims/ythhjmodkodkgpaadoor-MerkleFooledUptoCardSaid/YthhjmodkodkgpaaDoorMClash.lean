/- merkle.Clash. -/
import Derived.Test.YthhjmodkodkgpaaDoorMCheck2
import Derived.Test.YthhjmodkodkgpaaDoorKp
import Derived.Lib.QuietBelow
namespace Sbx
def goodAt (S : List Bool) (one : List UInt8) (P : List (List UInt8)) (two : List UInt8) (Q : List (List UInt8)) (h : Nat) : Bool :=
  decide (mtext S one P h ≠ mtext S two Q h) && decide (sha (mtext S one P h) = sha (mtext S two Q h))
def clashH (S : List Bool) (one : List UInt8) (P : List (List UInt8)) (two : List UInt8) (Q : List (List UInt8)) : Nat := (List.range (S.length + 1)).findIdx (goodAt S one P two Q)
theorem mnext_inj (r : Bool) (d d' p p' : List UInt8) (hd : d.length = d'.length) (hp : p.length = p'.length) (h : mnext r d p = mnext r d' p') : d = d' := by
  unfold mnext at h
  cases r with
  | true =>
    simp only [if_true, List.append_assoc, List.append_cancel_left_eq] at h
    exact (List.append_inj h hd).1
  | false =>
    simp only [Bool.false_eq_true, if_false, List.append_assoc, List.append_cancel_left_eq] at h
    exact (List.append_inj h hp).2
theorem getD_32 (P : List (List UInt8)) (h : (P.all fun s => s.length == 32) = true) (j : Nat) (hj : j < P.length) : (P.getD j []).length = 32 := by
  rw [List.getD_eq_getElem?_getD, List.getElem?_eq_getElem hj]
  have := List.all_eq_true.1 h _ (List.getElem_mem hj)
  exact beq_iff_eq.1 this
theorem good_exists (S : List Bool) (one : List UInt8) (P : List (List UInt8)) (two : List UInt8) (Q : List (List UInt8)) (hP : (P.all fun s => s.length == 32) = true) (hQ : (Q.all fun s => s.length == 32) = true) (lP : P.length = S.length) (lQ : Q.length = S.length)
    (ht : sha (mtext S one P S.length) = sha (mtext S two Q S.length)) (hne : one ≠ two) : ∃ h, h ≤ S.length ∧ goodAt S one P two Q h = true := by
  apply Classical.byContradiction
  intro hno
  have step : ∀ h, h ≤ S.length → sha (mtext S one P h) = sha (mtext S two Q h) → mtext S one P h = mtext S two Q h := fun h hh hs => by
    apply Classical.byContradiction
    intro hn
    exact hno ⟨h, hh, by unfold goodAt; simp [hn, hs]⟩
  have all : ∀ k, k ≤ S.length → mtext S one P (S.length - k) = mtext S two Q (S.length - k) := by
    intro k
    induction k with
    | zero => intro _; exact step _ (by omega) ht
    | succ k ih =>
      intro hk
      have h1 := ih (by omega)
      rw [show S.length - k = (S.length - (k + 1)) + 1 by omega, mtext, mtext] at h1
      exact step _ (by omega) (mnext_inj _ _ _ _ _ (by rw [sha_length, sha_length]) (by rw [getD_32 P hP _ (by omega), getD_32 Q hQ _ (by omega)]) h1)
  have h0 := all S.length (Nat.le_refl _)
  rw [Nat.sub_self] at h0
  exact hne (by simpa [mtext] using h0)
theorem clashH_spec (S : List Bool) (one : List UInt8) (P : List (List UInt8)) (two : List UInt8) (Q : List (List UInt8)) (he : ∃ h, h ≤ S.length ∧ goodAt S one P two Q h = true) :
    clashH S one P two Q ≤ S.length ∧ goodAt S one P two Q (clashH S one P two Q) = true ∧ ∀ j, j < clashH S one P two Q → goodAt S one P two Q j = false := by
  obtain ⟨h, hh, hg⟩ := he
  have hlt : (List.range (S.length + 1)).findIdx (goodAt S one P two Q) < (List.range (S.length + 1)).length :=
    List.findIdx_lt_length.2 ⟨h, by simp; omega, hg⟩
  have hl2 := hlt
  rw [List.length_range] at hl2
  refine ⟨by unfold clashH; omega, ?_, fun j hj => ?_⟩
  · have := List.findIdx_getElem (w := hlt)
    simpa [clashH] using this
  · have := List.not_of_lt_findIdx (p := goodAt S one P two Q) (xs := List.range (S.length + 1)) hj
    simpa using this
/-- what Clash says: two texts, an error -/
def clashV (root : List UInt8) (n i : Int) (one : List UInt8) (P : List (List UInt8)) (two : List UInt8) (Q : List (List UInt8)) : List UInt8 × List UInt8 × Int :=
  if mcheck root n i one P ≠ 0 then ([], [], mcheck root n i one P) else if mcheck root n i two Q ≠ 0 then ([], [], mcheck root n i two Q) else if one = two then ([], [], 1)
  else (mtext (msides n.toNat i.toNat) one P (clashH (msides n.toNat i.toNat) one P two Q), mtext (msides n.toNat i.toNat) two Q (clashH (msides n.toNat i.toNat) one P two Q), 0)
theorem mcheck_zero {root : List UInt8} {n i : Int} {leaf : List UInt8} {P : List (List UInt8)} (h : mcheck root n i leaf P = 0) :
    root.length = 32 ∧ 1 ≤ n ∧ n ≤ 4096 ∧ 0 ≤ i ∧ i < n ∧ P.length = (msides n.toNat i.toNat).length ∧ (P.all fun s => s.length == 32) = true ∧ sha (mtext (msides n.toNat i.toNat) leaf P (msides n.toNat i.toNat).length) = root := by
  unfold mcheck at h
  split at h
  · cases h
  · split at h
    · cases h
    · split at h
      · cases h
      · split at h
        · cases h
        · rename_i h1 h2 h3 h4
          have h3' : mok n.toNat i.toNat P = true := by cases hk : mok n.toNat i.toNat P <;> simp_all
          unfold mok at h3'
          rw [Bool.and_eq_true, decide_eq_true_iff] at h3'
          refine ⟨by omega, by omega, by omega, by omega, by omega, h3'.1, h3'.2, ?_⟩
          apply Classical.byContradiction
          exact h4
theorem clash_good {root : List UInt8} {n i : Int} {one : List UInt8} {P : List (List UInt8)} {two : List UInt8} {Q : List (List UInt8)} (h1 : mcheck root n i one P = 0) (h2 : mcheck root n i two Q = 0) (hne : one ≠ two) :
    clashH (msides n.toNat i.toNat) one P two Q ≤ (msides n.toNat i.toNat).length ∧ goodAt (msides n.toNat i.toNat) one P two Q (clashH (msides n.toNat i.toNat) one P two Q) = true ∧ ∀ j, j < clashH (msides n.toNat i.toNat) one P two Q → goodAt (msides n.toNat i.toNat) one P two Q j = false := by
  obtain ⟨_, _, _, _, _, a1, a2, a3⟩ := mcheck_zero h1
  obtain ⟨_, _, _, _, _, b1, b2, b3⟩ := mcheck_zero h2
  exact clashH_spec _ _ _ _ _ (good_exists _ _ _ _ _ a2 b2 a1 b1 (a3.trans b3.symm) hne)
end Sbx
namespace Go.Proofs.YthhjmodkodkgpaaDoor
open Go.RowKit Sbx Go.Sort

def clashR (a b : List UInt8) (e : Int) : Value := .tuple #[.string ⟨a.toArray⟩, .string ⟨b.toArray⟩, .int .i64 e]

set_option maxRecDepth 100000 in
set_option maxHeartbeats 2000000 in
theorem clash_err1 (root : List UInt8) (n i : Int) (one : List UInt8) (P : List (List UInt8)) (two : List UInt8) (Q : List (List UInt8)) (A B : Option Addr) (cap cap2 : Nat) (w : World) (hG : Glob w) (hl : one.length ≤ 1152921504606840000) (hPl : P.length ≤ 1000000000000) (hcap : P.length ≤ cap)
    (hR : Reads w w.heap.size A P.length (fun j => .string ⟨(P.getD j []).toArray⟩)) (he : mcheck root n i one P ≠ 0) :
    Calls Tryd.prog 32 #[.string ⟨root.toArray⟩, .int .i64 n, .int .i64 i, .string ⟨one.toArray⟩, .slice A P.length cap, .string ⟨two.toArray⟩, .slice B Q.length cap2] w fun e w' => e = .returned (clashR [] [] (mcheck root n i one P)) ∧ Below w.heap.size w w' := by
  have c1 := check_any root n i one P A cap w hG hl hPl hcap hR
  obtain ⟨x, ex⟩ : ∃ x, x = mcheck root n i one P := ⟨_, rfl⟩
  rw [← ex] at c1 he ⊢
  have hx : (x != 0) = true := by rw [bne_iff_ne]; exact he
  have C := Lib.hid c1
  clear c1 ex he hR hl hG
  unfold clashR
  go_enter Tryd.func32, Tryd.ntmps32
  go_wp2_with (go_at_call 22; refine C.out.mono ?_; clear C; rintro e w' ⟨rfl, hB⟩)
  go_ret3
  exact ⟨rfl, hB⟩

set_option maxRecDepth 100000 in
set_option maxHeartbeats 2000000 in
theorem clash_err2 (root : List UInt8) (n i : Int) (one : List UInt8) (P : List (List UInt8)) (two : List UInt8) (Q : List (List UInt8)) (A B : Option Addr) (cap cap2 : Nat) (w : World) (hG : Glob w) (hl : one.length ≤ 1152921504606840000) (hPl : P.length ≤ 1000000000000) (hcap : P.length ≤ cap)
    (hl2 : two.length ≤ 1152921504606840000) (hQl : Q.length ≤ 1000000000000) (hcap2 : Q.length ≤ cap2) (hR : Reads w w.heap.size A P.length (fun j => .string ⟨(P.getD j []).toArray⟩)) (hR2 : Reads w w.heap.size B Q.length (fun j => .string ⟨(Q.getD j []).toArray⟩)) (h1 : mcheck root n i one P = 0) (he : mcheck root n i two Q ≠ 0) :
    Calls Tryd.prog 32 #[.string ⟨root.toArray⟩, .int .i64 n, .int .i64 i, .string ⟨one.toArray⟩, .slice A P.length cap, .string ⟨two.toArray⟩, .slice B Q.length cap2] w fun e w' => e = .returned (clashR [] [] (mcheck root n i two Q)) ∧ Below w.heap.size w w' := by
  have HS := St.start hG
  have c1 := check_any root n i one P A cap w hG hl hPl hcap hR
  have c2 := fun W (g : Glob W) h => check_any root n i two Q B cap2 W g hl2 hQl hcap2 h
  obtain ⟨x, ex⟩ : ∃ x, x = mcheck root n i two Q := ⟨_, rfl⟩
  rw [h1] at c1
  rw [← ex] at c2 he ⊢
  have hx : (x != 0) = true := by rw [bne_iff_ne]; exact he
  have C := Lib.hid (And.intro c1 (And.intro c2 hR2))
  clear c1 c2 ex he hR hR2 hl hl2 hG h1 hPl hQl hcap hcap2
  unfold clashR
  go_enter Tryd.func32, Tryd.ntmps32
  go_wp2_with (first
    | (go_at_call 22; with_reducible refine (St.call HS C.out.1).mono ?_; clear HS; rintro e w' ⟨rfl, HS2⟩)
    | (go_at_call 22; refine (St.call HS2 (C.out.2.1 _ (St.glob HS2) (C.out.2.2.belowW (St.bel HS2)))).mono ?_; clear HS2; rintro e w' ⟨rfl, HS3⟩))
  go_ret3
  exact ⟨rfl, HS3.out.2⟩

set_option maxRecDepth 100000 in
set_option maxHeartbeats 2000000 in
theorem clash_eq (root : List UInt8) (n i : Int) (one : List UInt8) (P : List (List UInt8)) (Q : List (List UInt8)) (A B : Option Addr) (cap cap2 : Nat) (w : World) (hG : Glob w) (hl : one.length ≤ 1152921504606840000) (hPl : P.length ≤ 1000000000000) (hcap : P.length ≤ cap)
    (hQl : Q.length ≤ 1000000000000) (hcap2 : Q.length ≤ cap2) (hR : Reads w w.heap.size A P.length (fun j => .string ⟨(P.getD j []).toArray⟩)) (hR2 : Reads w w.heap.size B Q.length (fun j => .string ⟨(Q.getD j []).toArray⟩)) (h1 : mcheck root n i one P = 0) (h2 : mcheck root n i one Q = 0) :
    Calls Tryd.prog 32 #[.string ⟨root.toArray⟩, .int .i64 n, .int .i64 i, .string ⟨one.toArray⟩, .slice A P.length cap, .string ⟨one.toArray⟩, .slice B Q.length cap2] w fun e w' => e = .returned (clashR [] [] 1) ∧ Below w.heap.size w w' := by
  have HS := St.start hG
  have c1 := check_any root n i one P A cap w hG hl hPl hcap hR
  have c2 := fun W (g : Glob W) h => check_any root n i one Q B cap2 W g hl hQl hcap2 h
  rw [h1] at c1
  rw [h2] at c2
  have C := Lib.hid (And.intro c1 (And.intro c2 hR2))
  clear c1 c2 hR hR2 hl hG h1 h2 hPl hQl hcap hcap2
  unfold clashR
  go_enter Tryd.func32, Tryd.ntmps32
  go_wp2_with (first
    | (go_at_call 22; with_reducible refine (St.call HS C.out.1).mono ?_; clear HS; rintro e w' ⟨rfl, HS2⟩)
    | (go_at_call 22; refine (St.call HS2 (C.out.2.1 _ (St.glob HS2) (C.out.2.2.belowW (St.bel HS2)))).mono ?_; clear HS2; rintro e w' ⟨rfl, HS3⟩))
  go_ret3
  exact ⟨rfl, HS3.out.2⟩

set_option maxRecDepth 100000 in
set_option maxHeartbeats 4000000 in
theorem clash_found (root : List UInt8) (N I : Nat) (one : List UInt8) (P : List (List UInt8)) (two : List UInt8) (Q : List (List UInt8)) (A B : Option Addr) (cap cap2 : Nat) (w : World) (hG : Glob w) (hl : one.length ≤ 1152921504606830000) (hPl : P.length ≤ 1000000000000) (hcap : P.length ≤ cap)
    (hl2 : two.length ≤ 1152921504606830000) (hQl : Q.length ≤ 1000000000000) (hcap2 : Q.length ≤ cap2) (hR : Reads w w.heap.size A P.length (fun j => .string ⟨(P.getD j []).toArray⟩)) (hR2 : Reads w w.heap.size B Q.length (fun j => .string ⟨(Q.getD j []).toArray⟩))
    (h1 : mcheck root N I one P = 0) (h2 : mcheck root N I two Q = 0) (hne : one ≠ two) (hh : Nat) (hhS : hh ≤ (msides N I).length) (hg : goodAt (msides N I) one P two Q hh = true) (hb : ∀ j, j < hh → goodAt (msides N I) one P two Q j = false) :
    Calls Tryd.prog 32 #[.string ⟨root.toArray⟩, .int .i64 (N : Int), .int .i64 (I : Int), .string ⟨one.toArray⟩, .slice A P.length cap, .string ⟨two.toArray⟩, .slice B Q.length cap2] w fun e w' => e = .returned (clashR (mtext (msides N I) one P hh) (mtext (msides N I) two Q hh) 0) ∧ Below w.heap.size w w' := by
  have HS := St.start hG
  have c1 := check_any root N I one P A cap w hG (by omega) hPl hcap hR
  have c2 := fun W (g : Glob W) h => check_any root N I two Q B cap2 W g (by omega) hQl hcap2 h
  obtain ⟨_, n1, n2, i0, i1, p1, p2, _⟩ := mcheck_zero h1
  obtain ⟨_, _, _, _, _, q1, q2, _⟩ := mcheck_zero h2
  rw [Int.toNat_natCast, Int.toNat_natCast] at p1 q1
  rw [h1] at c1
  rw [h2] at c2
  have c3 := fun W (g : Glob W) h => texts_any N I one P A cap W (by omega) (by omega) g (by omega) (getD_le_of_all P p2) p1 hcap h
  have c4 := fun W (g : Glob W) h => texts_any N I two Q B cap2 W (by omega) (by omega) g (by omega) (getD_le_of_all Q q2) q1 hcap2 h
  have hlen := msides_length N I
  obtain ⟨S, eS⟩ : ∃ S, S = msides N I := ⟨_, rfl⟩
  rw [← eS] at c3 c4 hlen hhS hg hb p1 q1 ⊢
  have hle1 := mtext_le S one P (getD_le_of_all P p2)
  have hle2 := mtext_le S two Q (getD_le_of_all Q q2)
  have hot : (one == two) = false := by simpa using hne
  have hSl : S.length ≤ 4096 := by omega
  have C := Lib.hid (And.intro c1 (And.intro c2 (And.intro c3 c4)))
  have HR := Lib.hid (And.intro hR hR2)
  have HX := Lib.hid (And.intro hg (And.intro hb (And.intro hle1 (And.intro hle2 (And.intro hl hl2)))))
  clear c1 c2 c3 c4 eS h1 h2 p1 p2 q1 q2 hR hR2 hl hl2 hG hPl hQl hcap hcap2 hg hb hle1 hle2 hlen hne
  unfold clashR
  go_enter Tryd.func32, Tryd.ntmps32
  go_wp2_with (first
    | (go_at_call 22; with_reducible refine (St.call HS C.out.1).mono ?_; clear HS; rintro e w' ⟨rfl, HS2⟩)
    | (go_at_call 22; refine (St.call HS2 (C.out.2.1 _ (St.glob HS2) (HR.out.2.belowW (St.bel HS2)))).mono ?_; clear HS2; rintro e w' ⟨rfl, HS3⟩)
    | (go_at_call 52; refine (Kp.list HS3 (C.out.2.2.1 _ (St.glob HS3) (HR.out.1.belowW (St.bel HS3)))).mono ?_; clear HS3; rintro e w4 ⟨va, rfl, HA⟩
       obtain ⟨ga, ca, rfl, _⟩ := Lst.shape HA.out.2 (strs_mtexts_ne _ _ _ _)
       rw [strs_length, mtexts_length])
    | (go_at_call 52; refine (Kp.list HA (C.out.2.2.2 _ HA.out.1.1 (HR.out.2.belowW HA.out.1.2))).mono ?_; clear HA; rintro e w5 ⟨vb, rfl, HB⟩
       obtain ⟨gb, cb, rfl, _⟩ := Lst.shape HB.out.2 (strs_mtexts_ne _ _ _ _)
       rw [strs_length, mtexts_length]))
  have HB0 := HB
  go_loopw [21] (fun v21 wr => ∃ k : Nat, k ≤ hh ∧ v21 = .int .i64 (k : Int) ∧ Hid (And2 (And2 (St w) (LstW _ 9 (.slice (some ⟨ga, 0, none⟩) (strs (mtexts S one P S.length)).length ca) (strs (mtexts S one P S.length)))) (LstW _ 9 (.slice (some ⟨gb, 0, none⟩) (strs (mtexts S two Q S.length)).length cb) (strs (mtexts S two Q S.length))) wr))
    (fun v21 _ => hh - (intOf v21).toNat)
  case atStart => exact ⟨0, by omega, rfl, HB0⟩
  case round =>
    clear HB HB0
    obtain ⟨k, hk, rfl, HB⟩ := hrel
    have ra := Lst.cell HB.out.1.2 k _ (strs_getD _ k (by rw [mtexts_length]; omega))
    have rb := Lst.cell HB.out.2 k _ (strs_getD _ k (by rw [mtexts_length]; omega))
    rw [mtexts_getD _ _ _ _ _ (by omega)] at ra rb
    have la := HX.out.2.2.1 k
    have lb := HX.out.2.2.2.1 k
    have gk : k = hh → mtext S one P k ≠ mtext S two Q k ∧ sha (mtext S one P k) = sha (mtext S two Q k) := fun e => by
      have := HX.out.1
      rw [← e] at this
      simpa [goodAt] using this
    have bk : k < hh → mtext S one P k ≠ mtext S two Q k → sha (mtext S one P k) ≠ sha (mtext S two Q k) := fun e e2 => by
      have := HX.out.2.1 k e
      simpa [goodAt, e2] using this
    have hres : k = hh → clashR (mtext S one P k) (mtext S two Q k) 0 = clashR (mtext S one P hh) (mtext S two Q hh) 0 := fun e => by rw [e]
    unfold clashR at hres
    obtain ⟨R, eR⟩ : ∃ R : Value, R = Value.tuple #[Value.string ⟨(mtext S one P hh).toArray⟩, Value.string ⟨(mtext S two Q hh).toArray⟩, Value.int .i64 0] := ⟨_, rfl⟩
    rw [← eR] at hres
    obtain ⟨Ta, ea⟩ : ∃ T, T = mtext S one P k := ⟨_, rfl⟩
    obtain ⟨Tb, eb⟩ : ∃ T, T = mtext S two Q k := ⟨_, rfl⟩
    rw [← ea] at ra la gk bk hres
    rw [← eb] at rb lb gk bk hres
    have s1 := fun W (g : Glob W) => sum_any Ta W g (by have := HX.out.2.2.2.2.1; omega)
    have s2 := fun W (g : Glob W) => sum_any Tb W g (by have := HX.out.2.2.2.2.2; omega)
    have ld := sha_length Ta
    have lf := sha_length Tb
    obtain ⟨Da, eDa⟩ : ∃ D, D = sha Ta := ⟨_, rfl⟩
    obtain ⟨Db, eDb⟩ : ∃ D, D = sha Tb := ⟨_, rfl⟩
    rw [← eDa] at s1 ld gk bk
    rw [← eDb] at s2 lf gk bk
    have s3 := fun W => same_any Da Db W ld lf
    have k1 := cell_regrown ra
    have k2 := cell_regrown rb
    have hGr := HB.out.1.1.1
    have z1 : ∀ d os, Calls Tryd.prog 31 #[.string ⟨Ta.toArray⟩] (grow (redrawn wr d) os) fun e w' => e = .returned (.string ⟨Da.toArray⟩) ∧ ∃ p : Regrown, w' = grow (redrawn wr p.d) p.os := fun d os => Calls.regrown_of (s1 _ (hGr.below (below_regrown wr d os)))
    have z2 : ∀ d os, Calls Tryd.prog 31 #[.string ⟨Tb.toArray⟩] (grow (redrawn wr d) os) fun e w' => e = .returned (.string ⟨Db.toArray⟩) ∧ ∃ p : Regrown, w' = grow (redrawn wr p.d) p.os := fun d os => Calls.regrown_of (s2 _ (hGr.below (below_regrown wr d os)))
    have z3 : ∀ d os, Calls Tryd.prog 53 #[.string ⟨Da.toArray⟩, .string ⟨Db.toArray⟩] (grow (redrawn wr d) os) fun e w' => e = .returned (.bool (decide (Da = Db))) ∧ ∃ p : Regrown, w' = grow (redrawn wr p.d) p.os := fun d os => Calls.regrown_of (s3 _)
    have k0 : (0 : Int) ≤ (k : Int) := by omega
    have kS : (k : Int) < (S.length : Int) + 1 := by omega
    have kh : (k : Int) ≤ 4096 := by omega
    clear s1 s2 s3 hGr ea eb eDa eDb ld lf la lb
    by_cases hT : Ta = Tb
    · have hkh : k < hh := by
        rcases Nat.lt_or_ge k hh with h | h
        · exact h
        · exact absurd hT (gk (by omega)).1
      have hq : (Ta == Tb) = true := by simpa using hT
      clear gk bk hres eR ra rb
      go_wp2_with fail
      refine wp_region_quiet_below (by kernel_rfl) (by kernel_rfl) ?_
      repeat (first | go_big_quiet_step ((first | (with_reducible exact z1 _ _) | (with_reducible exact z2 _ _) | (with_reducible exact z3 _ _))) | quiet_step ((first | (with_reducible exact z1 _ _) | (with_reducible exact z2 _ _) | (with_reducible exact z3 _ _))))
      refine wpQuiet_nil ?_
      intro _ hw'
      obtain ⟨⟨dq, osq⟩, hw''⟩ := hw'
      subst hw''
      have HB2 := Lib.hid (Kp.keep _ _ HB.out (below_regrown wr dq osq))
      clear z1 z2 z3 k1 k2 HB
      generalize grow (redrawn wr dq) osq = w6 at *
      go_wp2
      go_roundw
      case rel => exact ⟨k + 1, by omega, by go_num, HB2⟩
      case measure => simp [intOf]; omega
    · have hq : (Ta == Tb) = false := by simpa using hT
      by_cases hkh : k < hh
      · have hd : decide (Da = Db) = false := by simpa using bk hkh hT
        rw [hd] at z3
        clear gk bk hres eR ra rb
        go_wp2_with fail
        refine wp_region_quiet_below (by kernel_rfl) (by kernel_rfl) ?_
        repeat (first | go_big_quiet_step ((first | (with_reducible exact z1 _ _) | (with_reducible exact z2 _ _) | (with_reducible exact z3 _ _))) | quiet_step ((first | (with_reducible exact z1 _ _) | (with_reducible exact z2 _ _) | (with_reducible exact z3 _ _))))
        refine wpQuiet_nil ?_
        intro _ hw'
        obtain ⟨⟨dq, osq⟩, hw''⟩ := hw'
        subst hw''
        have HB2 := Lib.hid (Kp.keep _ _ HB.out (below_regrown wr dq osq))
        clear z1 z2 z3 k1 k2 HB
        generalize grow (redrawn wr dq) osq = w6 at *
        go_wp2
        go_roundw
        case rel => exact ⟨k + 1, by omega, by go_num, HB2⟩
        case measure => simp [intOf]; omega
      · have hke : k = hh := by omega
        have hd : decide (Da = Db) = true := by simpa using (gk hke).2
        rw [hd] at z3
        have HRes := Lib.hid (hres hke)
        have HER := Lib.hid eR
        clear gk bk hres eR hke hkh
        go_wp2_with fail
        refine wp_region_quiet_below (by kernel_rfl) (by kernel_rfl) ?_
        repeat (first | go_big_quiet_step ((first | (with_reducible exact z1 _ _) | (with_reducible exact z2 _ _) | (with_reducible exact z3 _ _))) | quiet_step ((first | (with_reducible exact z1 _ _) | (with_reducible exact z2 _ _) | (with_reducible exact z3 _ _))))
        refine wpQuiet_nil ?_
        intro _ hw'
        obtain ⟨⟨dq, osq⟩, hw''⟩ := hw'
        subst hw''
        have HB2 := Lib.hid (Kp.keep _ _ HB.out (below_regrown wr dq osq))
        have ra2 := k1 dq osq
        have rb2 := k2 dq osq
        clear z1 z2 z3 k1 k2 HB ra rb
        generalize grow (redrawn wr dq) osq = w6 at *
        go_wp2
        go_region
        go_wp2
        go_ret3
        exact ⟨by rw [← HER.out, ← HRes.out]; rfl, HB2.out.1.1.2.drew⟩

theorem clash_any (root : List UInt8) (n i : Int) (one : List UInt8) (P : List (List UInt8)) (two : List UInt8) (Q : List (List UInt8)) (A B : Option Addr) (cap cap2 : Nat) (w : World) (hG : Glob w) (hl : one.length ≤ 1152921504606830000) (hPl : P.length ≤ 1000000000000) (hcap : P.length ≤ cap)
    (hl2 : two.length ≤ 1152921504606830000) (hQl : Q.length ≤ 1000000000000) (hcap2 : Q.length ≤ cap2) (hR : Reads w w.heap.size A P.length (fun j => .string ⟨(P.getD j []).toArray⟩)) (hR2 : Reads w w.heap.size B Q.length (fun j => .string ⟨(Q.getD j []).toArray⟩)) :
    Calls Tryd.prog 32 #[.string ⟨root.toArray⟩, .int .i64 n, .int .i64 i, .string ⟨one.toArray⟩, .slice A P.length cap, .string ⟨two.toArray⟩, .slice B Q.length cap2] w fun e w' => e = .returned (clashR (clashV root n i one P two Q).1 (clashV root n i one P two Q).2.1 (clashV root n i one P two Q).2.2) ∧ Below w.heap.size w w' := by
  unfold clashV
  by_cases h1 : mcheck root n i one P = 0
  · rw [if_neg (by simpa using h1)]
    by_cases h2 : mcheck root n i two Q = 0
    · rw [if_neg (by simpa using h2)]
      by_cases h3 : one = two
      · subst h3
        rw [if_pos rfl]
        exact clash_eq root n i one P Q A B cap cap2 w hG (by omega) hPl hcap hQl hcap2 hR hR2 h1 h2
      · rw [if_neg h3]
        obtain ⟨a1, a2, a3⟩ := clash_good h1 h2 h3
        obtain ⟨_, n1, _, i0, _⟩ := mcheck_zero h1
        obtain ⟨N, rfl⟩ : ∃ N : Nat, n = N := ⟨n.toNat, by omega⟩
        obtain ⟨I, rfl⟩ : ∃ I : Nat, i = I := ⟨i.toNat, by omega⟩
        rw [Int.toNat_natCast, Int.toNat_natCast] at a1 a2 a3 ⊢
        exact clash_found root N I one P two Q A B cap cap2 w hG hl hPl hcap hl2 hQl hcap2 hR hR2 h1 h2 h3 _ a1 a2 a3
    · rw [if_pos h2]
      exact clash_err2 root n i one P two Q A B cap cap2 w hG (by omega) hPl hcap (by omega) hQl hcap2 hR hR2 h1 h2
  · rw [if_pos h1]
    exact clash_err1 root n i one P two Q A B cap cap2 w hG (by omega) hPl hcap hR h1
end Go.Proofs.YthhjmodkodkgpaaDoor
