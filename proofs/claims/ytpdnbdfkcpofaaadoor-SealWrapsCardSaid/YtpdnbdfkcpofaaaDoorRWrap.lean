/- strongboxref2: place, secret, tagged, Wrap, Unwrap. -/
import Derived.Test.YtpdnbdfkcpofaaaDoorWrap2
namespace Go.Proofs.YtpdnbdfkcpofaaaDoor
open Go.RowKit Sbx Go.Sort

theorem placeE_two (v b : Int) : placeE v b = 0 ∨ placeE v b = 1 := by unfold placeE; split <;> omega
theorem rplace_any (v b : Int) (w : World) :
    Calls Tryd.prog 43 #[.int .i64 v, .int .i64 b] w fun e w' => e = .returned (.bool (decide (placeE v b = 0))) ∧ w = w' := by
  have out : ∀ r, decide (placeE v b = 0) = r → Calls Tryd.prog 43 #[.int .i64 v, .int .i64 b] w (fun e w' => e = .returned (.bool r) ∧ w = w') → Calls Tryd.prog 43 #[.int .i64 v, .int .i64 b] w (fun e w' => e = .returned (.bool (decide (placeE v b = 0))) ∧ w = w') := fun r hr h => by rw [hr]; exact h
  by_cases h1 : v < 0
  · refine out false (by unfold placeE; rw [if_pos (by omega)]; rfl) ?_
    clear out
    go_enter Tryd.func43, Tryd.ntmps43
    go_wp2_with fail
    go_ret
    exact ⟨rfl, rfl⟩
  by_cases h2 : 99 < v
  · refine out false (by unfold placeE; rw [if_pos (by omega)]; rfl) ?_
    clear out
    have h1' : 0 ≤ v := by omega
    go_enter Tryd.func43, Tryd.ntmps43
    go_wp2_with fail
    go_ret
    exact ⟨rfl, rfl⟩
  by_cases h3 : b < 0
  · refine out false (by unfold placeE; rw [if_pos (by omega)]; rfl) ?_
    clear out
    have h1' : 0 ≤ v := by omega
    have h2' : v ≤ 99 := by omega
    go_enter Tryd.func43, Tryd.ntmps43
    go_wp2_with fail
    go_ret
    exact ⟨rfl, rfl⟩
  by_cases h4 : 59 < b
  · refine out false (by unfold placeE; rw [if_pos (by omega)]; rfl) ?_
    clear out
    have h1' : 0 ≤ v := by omega
    have h2' : v ≤ 99 := by omega
    have h3' : 0 ≤ b := by omega
    have h4' : ¬ b < 60 := by omega
    go_enter Tryd.func43, Tryd.ntmps43
    go_wp2_with fail
    go_ret
    exact ⟨rfl, rfl⟩
  · refine out true (by unfold placeE; rw [if_neg (by omega)]; rfl) ?_
    clear out
    have h1' : 0 ≤ v := by omega
    have h2' : v ≤ 99 := by omega
    have h3' : 0 ≤ b := by omega
    have h4' : b < 60 := by omega
    go_enter Tryd.func43, Tryd.ntmps43
    go_wp2_with fail
    go_ret
    exact ⟨rfl, rfl⟩

/-- a walk of the document's answer: nothing that lay in w0 has turned -/
def Bl (w0 w : World) : Prop := Below w0.heap.size w0 w
theorem Bl.start (w : World) : Hid (Bl w w) := Below.refl _ _
theorem Bl.call {w0 w : World} {f : FuncId} {args : Array Value} {v : Ending} (h : Hid (Bl w0 w)) (c : ∀ W, Calls Tryd.prog f args W fun e w' => e = v ∧ Below W.heap.size W w') : Calls Tryd.prog f args w fun e w' => e = v ∧ Hid (Bl w0 w') :=
  (c w).mono fun _ _ ⟨he, hb⟩ => ⟨he, Below.trans h.out (Below.mono hb (Below.size h.out))⟩
theorem Bl.still {w0 w : World} {f : FuncId} {args : Array Value} {v : Ending} (h : Hid (Bl w0 w)) (c : ∀ W, Calls Tryd.prog f args W fun e w' => e = v ∧ W = w') : Calls Tryd.prog f args w fun e w' => e = v ∧ Hid (Bl w0 w') :=
  (c w).mono fun _ _ ⟨he, hb⟩ => ⟨he, by rw [← hb]; exact h⟩

theorem rnumber4 (j : Nat) (w : World) (hj : j ≤ 9223372036854775807) :
    Calls Tryd.prog 50 #[.int .i64 (j : Int), .int .i64 4] w fun e w' => e = .returned (.string ⟨(num j 4).toArray⟩) ∧ Below w.heap.size w w' := rnumber_any j 4 w hj (by omega)
theorem rpart32 (key : List UInt8) (w : World) (hk : key.length ≤ 140737488353000) :
    Calls Tryd.prog 35 #[.string ⟨key.toArray⟩, .int .i64 0, .int .i64 32] w fun e w' => e = .returned (.string ⟨(stream key 0 32).toArray⟩) ∧ Below w.heap.size w w' := rpart_any key 0 32 w hk (by omega) (by omega)

set_option maxRecDepth 100000 in
theorem secret_any (m : List UInt8) (V B : Nat) (w : World) (hm : m.length ≤ 140737488354000) (hV : V ≤ 99) (hB : B ≤ 59) :
    Calls Tryd.prog 44 #[.string ⟨m.toArray⟩, .int .i64 (V : Int), .int .i64 (B : Int)] w fun e w' => e = .returned (.string ⟨(placeW m V B).toArray⟩) ∧ Below w.heap.size w w' := by
  have HS := Bl.start w
  have c1 := fun W => rnumber4 V W (by omega)
  have c2 := fun W => rnumber4 B W (by omega)
  have c3 := fun W => rmac_any m ([119, 114, 97, 112] ++ num V 4 ++ num B 4) W (by omega) (by simp [num_length])
  rw [← str_app, ← str_app] at c3
  change ∀ W, Calls _ _ _ W (fun e w' => e = Ending.returned (Value.string ⟨(placeW m V B).toArray⟩) ∧ _) at c3
  obtain ⟨X, eX⟩ : ∃ X, X = placeW m V B := ⟨_, rfl⟩
  rw [← eX] at c3 ⊢
  obtain ⟨N1, e1⟩ : ∃ X, X = num V 4 := ⟨_, rfl⟩
  obtain ⟨N2, e2⟩ : ∃ X, X = num B 4 := ⟨_, rfl⟩
  have l1 : N1.length = 4 := by rw [e1, num_length]
  have l2 : N2.length = 4 := by rw [e2, num_length]
  rw [← e1] at c1 c3
  rw [← e2] at c2 c3
  have H := Lib.hid (And.intro c1 (And.intro c2 c3))
  clear c1 c2 c3 eX e1 e2 hm hV hB
  go_enter Tryd.func44, Tryd.ntmps44
  go_wp2_with (first
    | (go_at_call 50; with_reducible refine (Bl.call HS H.out.1).mono ?_; clear HS; rintro e w' ⟨rfl, HS⟩)
    | (go_at_call 50; with_reducible refine (Bl.call HS H.out.2.1).mono ?_; clear HS; rintro e w' ⟨rfl, HS⟩)
    | (go_at_call 38; refine (Bl.call HS H.out.2.2).mono ?_; clear HS; rintro e w' ⟨rfl, HS⟩))
  go_ret
  exact ⟨rfl, HS.out⟩
theorem tagged_any (k h : List UInt8) (w : World) (hk : k.length ≤ 140737488354000) (hh : h.length ≤ 140737488353000) :
    Calls Tryd.prog 45 #[.string ⟨k.toArray⟩, .string ⟨h.toArray⟩] w fun e w' => e = .returned (.string ⟨(h ++ tagS k h).toArray⟩) ∧ Below w.heap.size w w' := by
  have HS := Bl.start w
  have c := fun W => rmac_any k ([116, 97, 103] ++ h) W (by omega) (by simp; omega)
  rw [← str_app] at c
  obtain ⟨M, eM⟩ : ∃ M, M = hmac k ([116, 97, 103] ++ h) := ⟨_, rfl⟩
  have lM : M.length = 32 := by rw [eM]; exact hmac_length _ _
  rw [show tagS k h = M.take 16 from by rw [eM]; rfl]
  rw [← eM] at c
  have hsl := fun W => run_slice_to (P := Tryd.prog) (t := 9) Tryd.underlying9 M .i64 16 (by omega) 16 rfl W
  obtain ⟨T, eT⟩ : ∃ T, T = M.take 16 := ⟨_, rfl⟩
  have lT : T.length = 16 := by rw [eT, List.length_take, lM]; rfl
  rw [← eT] at hsl ⊢
  rw [← str_app]
  have C := Lib.hid c
  have le : ¬ 9223372036854775807 < 3 + h.length := by omega
  have le2 : ¬ 9223372036854775807 < h.length + T.length := by omega
  clear c eM lM eT hk hh
  go_enter Tryd.func45, Tryd.ntmps45
  go_wp2_with (go_at_call 38; refine (Bl.call HS C.out).mono ?_; clear HS; rintro e w' ⟨rfl, HS⟩)
  go_ret
  exact ⟨rfl, HS.out⟩

set_option maxRecDepth 100000 in
set_option maxHeartbeats 1000000 in
theorem rwrap_any (m : List UInt8) (v b : Int) (k : List UInt8) (w : World) :
    Calls Tryd.prog 27 #[.string ⟨m.toArray⟩, .int .i64 v, .int .i64 b, .string ⟨k.toArray⟩] w fun e w' => e = .returned (.tuple #[.string ⟨(wrapS m v b k).toArray⟩, .int .i64 (wrapE m v b k)]) ∧ Below w.heap.size w w' := by
  have HS := Bl.start w
  rcases wrap_cases m v b k with ⟨hd, he, hs⟩ | ⟨⟨hm, hk⟩, hp, he, hs⟩ | ⟨⟨hm, hk⟩, hp, he, hs⟩
  · rw [he, hs]
    by_cases h1 : m.length = 32
    · have hk : k.length ≠ 32 := fun h => hd ⟨h1, h⟩
      have hn1 : ((m.length : Int) != 32) = false := by rw [bne_eq_false_iff_eq]; omega
      have hn2 : ((k.length : Int) != 32) = true := by rw [bne_iff_ne]; omega
      clear he hs hd h1 hk
      go_enter Tryd.func27, Tryd.ntmps27
      go_wp2_with fail
      go_ret2
      exact ⟨rfl, HS.out⟩
    · have hn1 : ((m.length : Int) != 32) = true := by rw [bne_iff_ne]; omega
      clear he hs hd h1
      go_enter Tryd.func27, Tryd.ntmps27
      go_wp2_with fail
      go_ret2
      exact ⟨rfl, HS.out⟩
  · rw [he, hs, (placeE_two v b).resolve_left hp]
    have hn1 : ((m.length : Int) != 32) = false := by rw [bne_eq_false_iff_eq]; omega
    have hn2 : ((k.length : Int) != 32) = false := by rw [bne_eq_false_iff_eq]; omega
    have c1 := fun W => rplace_any v b W
    rw [show decide (placeE v b = 0) = false from by simpa using hp] at c1
    have C := Lib.hid c1
    clear he hs hm hk c1 hp
    go_enter Tryd.func27, Tryd.ntmps27
    go_wp2_with (go_at_call 43; refine (Bl.still HS C.out).mono ?_; clear HS; rintro e w' ⟨rfl, HS⟩)
    go_ret2
    exact ⟨rfl, HS.out⟩
  · rw [he, hs]
    have hn1 : ((m.length : Int) != 32) = false := by rw [bne_eq_false_iff_eq]; omega
    have hn2 : ((k.length : Int) != 32) = false := by rw [bne_eq_false_iff_eq]; omega
    have c1 := fun W => rplace_any v b W
    rw [show decide (placeE v b = 0) = true from by simpa using hp] at c1
    have hr : 0 ≤ v ∧ v ≤ 99 ∧ 0 ≤ b ∧ b ≤ 59 := by unfold placeE at hp; split at hp <;> omega
    obtain ⟨V, rfl⟩ : ∃ V : Nat, v = (V : Int) := ⟨v.toNat, by omega⟩
    obtain ⟨B, rfl⟩ : ∃ V : Nat, b = (V : Int) := ⟨b.toNat, by omega⟩
    rw [Int.toNat_natCast, Int.toNat_natCast]
    have c2 := fun W => secret_any m V B W (by omega) (by omega) (by omega)
    obtain ⟨P, eP⟩ : ∃ P, P = placeW m V B := ⟨_, rfl⟩
    have lP : P.length = 32 := by rw [eP]; exact placeW_length _ _ _
    rw [← eP] at c2 ⊢
    have c3 := fun W => rpart32 P W (by omega)
    obtain ⟨T, eT⟩ : ∃ T, T = stream P 0 32 := ⟨_, rfl⟩
    have lT : T.length = 32 := by rw [eT, stream_length]
    rw [← eT] at c3
    have c4 := fun W => rlaid_any k T W (by omega) (by omega)
    rw [show xorS k T = hideX P k from by rw [eT]; rfl] at c4
    unfold wrapX
    obtain ⟨X, eX⟩ : ∃ X, X = hideX P k := ⟨_, rfl⟩
    have lX : X.length = 32 := by rw [eX]; unfold hideX; rw [xorS_length, hk]
    rw [← eX] at c4 ⊢
    have c5 := fun W => tagged_any P X W (by omega) (by omega)
    obtain ⟨Z, eZ⟩ : ∃ Z, Z = X ++ tagS P X := ⟨_, rfl⟩
    rw [← eZ] at c5 ⊢
    have C := Lib.hid (And.intro c1 (And.intro c2 (And.intro c3 (And.intro c4 c5))))
    clear he hs hm hk c1 c2 c3 c4 c5 hp hr eP lP eT lT eX lX eZ
    go_enter Tryd.func27, Tryd.ntmps27
    go_wp2_with (first
      | (go_at_call 43; refine (Bl.still HS C.out.1).mono ?_; clear HS; rintro e w' ⟨rfl, HS⟩)
      | (go_at_call 44; refine (Bl.call HS C.out.2.1).mono ?_; clear HS; rintro e w' ⟨rfl, HS⟩)
      | (go_at_call 35; refine (Bl.call HS C.out.2.2.1).mono ?_; clear HS; rintro e w' ⟨rfl, HS⟩)
      | (go_at_call 36; refine (Bl.call HS C.out.2.2.2.1).mono ?_; clear HS; rintro e w' ⟨rfl, HS⟩)
      | (go_at_call 45; refine (Bl.call HS C.out.2.2.2.2).mono ?_; clear HS; rintro e w' ⟨rfl, HS⟩))
    go_ret2
    exact ⟨rfl, HS.out⟩

set_option maxRecDepth 100000 in
set_option maxHeartbeats 1000000 in
theorem runwrap_any (m : List UInt8) (v b : Int) (s : List UInt8) (w : World) :
    Calls Tryd.prog 29 #[.string ⟨m.toArray⟩, .int .i64 v, .int .i64 b, .string ⟨s.toArray⟩] w fun e w' => e = .returned (.tuple #[.string ⟨(unwrapS m v b s).toArray⟩, .int .i64 (unwrapE m v b s)]) ∧ Below w.heap.size w w' := by
  have HS := Bl.start w
  rcases unwrap_cases m v b s with ⟨hd, he, hs⟩ | ⟨hm, hp, he, hs⟩ | hh
  · rw [he, hs]
    have hn1 : ((m.length : Int) != 32) = true := by rw [bne_iff_ne]; omega
    clear he hs hd
    go_enter Tryd.func29, Tryd.ntmps29
    go_wp2_with fail
    go_ret2
    exact ⟨rfl, HS.out⟩
  · rw [he, hs, (placeE_two v b).resolve_left hp]
    have hn1 : ((m.length : Int) != 32) = false := by rw [bne_eq_false_iff_eq]; omega
    have c1 := fun W => rplace_any v b W
    rw [show decide (placeE v b = 0) = false from by simpa using hp] at c1
    have C := Lib.hid c1
    clear he hs hm c1 hp
    go_enter Tryd.func29, Tryd.ntmps29
    go_wp2_with (go_at_call 43; refine (Bl.still HS C.out).mono ?_; clear HS; rintro e w' ⟨rfl, HS⟩)
    go_ret2
    exact ⟨rfl, HS.out⟩
  · have h1 : m.length = 32 ∧ placeE v b = 0 := by rcases hh with ⟨a, b, _⟩ | ⟨a, b, _⟩ | ⟨a, b, _⟩ <;> exact ⟨a, b⟩
    obtain ⟨hm, hp⟩ := h1
    have hn1 : ((m.length : Int) != 32) = false := by rw [bne_eq_false_iff_eq]; omega
    have c1 := fun W => rplace_any v b W
    rw [show decide (placeE v b = 0) = true from by simpa using hp] at c1
    rcases hh with ⟨_, _, hl, he, hs⟩ | hh
    · rw [he, hs]
      have hne : ((s.length : Int) != 48) = true := by rw [bne_iff_ne]; omega
      have C := Lib.hid c1
      clear he hs hm hp c1 hl
      go_enter Tryd.func29, Tryd.ntmps29
      go_wp2_with (go_at_call 43; refine (Bl.still HS C.out).mono ?_; clear HS; rintro e w' ⟨rfl, HS⟩)
      go_ret2
      exact ⟨rfl, HS.out⟩
    · have hl : s.length = 48 := by rcases hh with ⟨_, _, h, _⟩ | ⟨_, _, h, _⟩ <;> exact h
      have hne : ((s.length : Int) != 48) = false := by rw [bne_eq_false_iff_eq]; omega
      have hr : 0 ≤ v ∧ v ≤ 99 ∧ 0 ≤ b ∧ b ≤ 59 := by unfold placeE at hp; split at hp <;> omega
      obtain ⟨V, rfl⟩ : ∃ V : Nat, v = (V : Int) := ⟨v.toNat, by omega⟩
      obtain ⟨B, rfl⟩ : ∃ V : Nat, b = (V : Int) := ⟨b.toNat, by omega⟩
      rw [Int.toNat_natCast, Int.toNat_natCast] at hh
      have c2 := fun W => secret_any m V B W (by omega) (by omega) (by omega)
      obtain ⟨P, eP⟩ : ∃ P, P = placeW m V B := ⟨_, rfl⟩
      have lP : P.length = 32 := by rw [eP]; exact placeW_length _ _ _
      rw [← eP] at c2 hh
      have s1 := fun W => run_slice_to (P := Tryd.prog) (t := 9) Tryd.underlying9 s .i64 32 (by omega) 32 rfl W
      have hsplit := List.take_append_drop 32 s
      obtain ⟨A, eA⟩ : ∃ A, A = s.take 32 := ⟨_, rfl⟩
      obtain ⟨D, eD⟩ : ∃ A, A = s.drop 32 := ⟨_, rfl⟩
      have lA : A.length = 32 := by rw [eA, List.length_take]; omega
      rw [← eA] at s1 hh hsplit
      rw [← eD] at hh hsplit
      have c3 := fun W => rpart32 P W (by omega)
      obtain ⟨T, eT⟩ : ∃ T, T = stream P 0 32 := ⟨_, rfl⟩
      have lT : T.length = 32 := by rw [eT, stream_length]
      rw [← eT] at c3
      have c4 := fun W => rlaid_any A T W (by omega) (by omega)
      rw [show xorS A T = hideX P A from by rw [eT]; rfl] at c4
      have c5 := fun W => tagged_any P A W (by omega) (by omega)
      obtain ⟨G, eG⟩ : ∃ T, T = tagS P A := ⟨_, rfl⟩
      rw [← eG] at c5 hh
      obtain ⟨Z, eZ⟩ : ∃ Z, Z = A ++ G := ⟨_, rfl⟩
      rw [← eZ] at c5
      have hZ : (Z = s) ↔ G = D := by
        rw [eZ, ← hsplit]
        exact ⟨fun h => List.append_cancel_left h, fun h => by rw [h]⟩
      obtain ⟨X, eX⟩ : ∃ X, X = hideX P A := ⟨_, rfl⟩
      rw [← eX] at c4 hh
      have C := Lib.hid (And.intro c1 (And.intro c2 (And.intro c3 (And.intro c4 c5))))
      have HZ := Lib.hid hZ
      clear hm hp c1 c2 c3 c4 c5 eP lP eA eD lA eT lT eX eG eZ hr hl hsplit hZ
      rcases hh with ⟨_, _, _, h, he, hs⟩ | ⟨_, _, _, h, he, hs⟩
      · rw [he, hs]
        have hE : (Z == s) = false := by rw [beq_eq_false_iff_ne]; exact fun e => h (HZ.out.1 e)
        clear he hs h HZ
        go_enter Tryd.func29, Tryd.ntmps29
        go_wp2_with (first
          | (go_at_call 43; refine (Bl.still HS C.out.1).mono ?_; clear HS; rintro e w' ⟨rfl, HS⟩)
          | (go_at_call 44; refine (Bl.call HS C.out.2.1).mono ?_; clear HS; rintro e w' ⟨rfl, HS⟩)
          | (go_at_call 45; refine (Bl.call HS C.out.2.2.2.2).mono ?_; clear HS; rintro e w' ⟨rfl, HS⟩))
        go_ret2
        exact ⟨rfl, HS.out⟩
      · rw [he, hs]
        have hE : (Z == s) = true := by rw [beq_iff_eq]; exact HZ.out.2 h
        clear he hs h HZ
        go_enter Tryd.func29, Tryd.ntmps29
        go_wp2_with (first
          | (go_at_call 43; refine (Bl.still HS C.out.1).mono ?_; clear HS; rintro e w' ⟨rfl, HS⟩)
          | (go_at_call 44; refine (Bl.call HS C.out.2.1).mono ?_; clear HS; rintro e w' ⟨rfl, HS⟩)
          | (go_at_call 45; refine (Bl.call HS C.out.2.2.2.2).mono ?_; clear HS; rintro e w9 ⟨rfl, HS⟩))
        have cl : ∀ d os, Calls Tryd.prog 35 #[.string ⟨P.toArray⟩, .int .i64 0, .int .i64 32] (grow (redrawn w9 d) os) fun e w' => e = .returned (.string ⟨T.toArray⟩) ∧ ∃ p : Regrown, w' = grow (redrawn w9 p.d) p.os := fun d os => Calls.regrown_of (C.out.2.2.1 _)
        have c1 : ∀ d os, Calls Tryd.prog 36 #[.string ⟨A.toArray⟩, .string ⟨T.toArray⟩] (grow (redrawn w9 d) os) fun e w' => e = .returned (.string ⟨X.toArray⟩) ∧ ∃ p : Regrown, w' = grow (redrawn w9 p.d) p.os := fun d os => Calls.regrown_of (C.out.2.2.2.1 _)
        refine wp_region_quiet_below (by kernel_rfl) (by kernel_rfl) ?_
        repeat (first | go_big_quiet_step ((first | (with_reducible exact cl _ _) | (with_reducible exact c1 _ _))) | quiet_step ((first | (with_reducible exact cl _ _) | (with_reducible exact c1 _ _))))
        refine wpQuiet_nil ?_
        intro _ hw'
        obtain ⟨⟨dq, osq⟩, hw''⟩ := hw'
        subst hw''
        have hB := HS.out.trans ((below_regrown w9 dq osq).mono HS.out.size)
        clear cl c1 HS
        generalize grow (redrawn w9 dq) osq = w2 at *
        go_wp2
        go_ret2
        exact ⟨rfl, hB⟩
end Go.Proofs.YtpdnbdfkcpofaaaDoor
