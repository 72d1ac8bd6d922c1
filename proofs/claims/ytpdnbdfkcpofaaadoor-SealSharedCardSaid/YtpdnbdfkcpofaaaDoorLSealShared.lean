/- strongboxlaw2.SealShared: the walk. -/
import Derived.Test.YtpdnbdfkcpofaaaDoorLSealOpens
import Derived.Test.YtpdnbdfkcpofaaaDoorPick2
import Derived.StillTactics
namespace Go.Proofs.YtpdnbdfkcpofaaaDoor
open Go.RowKit Sbx Go.Sort

theorem num_small : ∀ n, n < 8 → num n 8 = [0, 0, 0, 0, 0, 0, 0] ++ [n.toUInt8] := by decide +kernel
theorem run_convert_one (x : UInt8) (W : World) (fr : Nat × Nat) : (convert 44 9 (.slice (some ⟨W.heap.size, 0, none⟩) 1 1)).run Tryd.prog (W.alloc (.cells #[.int .u8 (x.toNat : Int)] 5 fr)) = .ok (.string ⟨#[x]⟩) (W.alloc (.cells #[.int .u8 (x.toNat : Int)] 5 fr)) := by
  have h := run_convert_b8 (P := Tryd.prog) (src := 44) (dst := 9) (e := 5) Tryd.underlying44 Tryd.underlying5 Tryd.underlying9 ⟨W.heap.size, 0, none⟩ [x] 1 (W.alloc (.cells #[.int .u8 (x.toNat : Int)] 5 fr)) (fun j hj => by
    obtain rfl : j = 0 := by simpa using hj
    rw [addr_add, Nat.zero_add, cell_of_row _ _ _ _ _ _ (heap_alloc_new W _)]
    rfl)
  exact h
theorem pick_byte (a : Int) : ∃ x : UInt8, pickI a 8 = (x.toNat : Int) ∧ x.toNat < 8 := by
  have h1 := pickI_nonneg a 8 (by omega)
  have h2 := pickI_lt a 8 (by omega)
  refine ⟨(pickI a 8).toNat.toUInt8, ?_, ?_⟩
  · simp; omega
  · simp; omega

set_option maxRecDepth 100000 in
set_option maxHeartbeats 2000000 in
theorem sealshared_any (d p o : List UInt8) (v : Int) (w : World) (hG : Glob w) (hd0 : d.length ≤ 140737488354000) (hp0 : p.length ≤ 140737488354000) (ho0 : o.length ≤ 140737488354000)
    (v0 : -9223372036854775808 ≤ v) (v1 : v ≤ 9223372036854775807) :
    Calls Tryd.prog 9 #[.string ⟨d.toArray⟩, .string ⟨p.toArray⟩, .string ⟨o.toArray⟩, .int .i64 v] w fun e w' => e = .returned (.bool true) ∧ Below w.heap.size w w' := by
  have HS := St.start hG
  have c1 := fun W => shaped32 d W (by omega)
  have c2 := fun W => shaped256 p W (by omega)
  have c3 := fun W => shaped32 o W (by omega)
  obtain ⟨D, eD⟩ : ∃ A, A = shapeV d 32 := ⟨_, rfl⟩
  obtain ⟨P, eP⟩ : ∃ A, A = shapeV p 256 := ⟨_, rfl⟩
  obtain ⟨O, eO⟩ : ∃ A, A = shapeV o 32 := ⟨_, rfl⟩
  have lD : D.length = 32 := by rw [eD]; exact shapeV_length _ _
  have lP : P.length = 256 := by rw [eP]; exact shapeV_length _ _
  have lO : O.length = 32 := by rw [eO]; exact shapeV_length _ _
  rw [← eD] at c1
  rw [← eP] at c2
  rw [← eO] at c3
  obtain ⟨x, ex, hx8⟩ := pick_byte v
  have c4 := fun W => pick_any v 8 W (by omega) v0 v1
  rw [ex] at c4
  have hb : bkE D P = 0 := by unfold bkE; rw [if_neg (by simpa using lD), if_neg (by simpa using lP)]
  have hbs : bkS D P = hmac D P := by unfold bkS; rw [if_pos hb]
  have lK := bkS_length D P hb
  have hC : sealC D P = xorS P (stream (bkS D P) 0 256) := by unfold sealC; rw [if_pos hb]
  have c5 := fun W (h : Glob W) => seal_any D P W h
  have c6 := fun W (h : Glob W) => blockkey_any D P W h
  have c7 := fun W (h : Glob W) => mac_any D P W h (by omega) (by omega)
  rw [← hbs] at c7
  rw [hb] at c5 c6
  obtain ⟨K, eK⟩ : ∃ A, A = bkS D P := ⟨_, rfl⟩
  obtain ⟨C, eC⟩ : ∃ A, A = sealC D P := ⟨_, rfl⟩
  rw [← eK, ← eC] at c5
  rw [← eK] at c6 c7 lK hC
  rw [← eC] at hC
  have lC : C.length = 256 := by rw [hC, xorS_length, lP]
  have c8 := fun W (h : Glob W) => digest_any C W h
  rw [show dgE C = 0 from by unfold dgE; rw [if_neg (by simpa using lC)], show dgS C = sha C from by unfold dgS; rw [if_neg (by simpa using lC)]] at c8
  have c9 := fun W (h : Glob W) => sum_any C W h (by omega)
  obtain ⟨S, eS⟩ : ∃ A, A = sha C := ⟨_, rfl⟩
  rw [← eS] at c8 c9
  have c10 := fun W (h : Glob W) => sum_any (K ++ [0, 0, 0, 0, 0, 0, 0] ++ [x]) W h (by simp; omega)
  have hpc : sha (K ++ [0, 0, 0, 0, 0, 0, 0] ++ [x]) = piece K x.toNat := by
    unfold piece
    rw [num_small _ hx8, show x.toNat.toUInt8 = x from by simp, List.append_assoc]
  rw [hpc, ← str_app, ← str_app] at c10
  obtain ⟨Z, eZ⟩ : ∃ A, A = piece K x.toNat := ⟨_, rfl⟩
  have lZ : Z.length = 32 := by rw [eZ]; exact piece_length _ _
  rw [← eZ] at c10
  have hbytes : ∀ i, i < 32 → C.getD (32 * x.toNat + i) 0 = P.getD (32 * x.toNat + i) 0 ^^^ Z.getD i 0 := fun i hi => by
    rw [hC, xorS_getD _ _ _ (by omega), stream_getD _ _ _ _ (by omega), eZ]
    unfold byteAt
    rw [show (0 + (32 * x.toNat + i)) / 32 = x.toNat from by omega, show (0 + (32 * x.toNat + i)) % 32 = i from by omega]
  have c11 := fun W (h : Glob W) => open_any O K C W h
  have c12 := fun W (h : Glob W) => mac_any O P W h (by omega) (by omega)
  have hX : openX K C = P := by
    have h := xor_twice K 0 P
    rw [xorS_length, lP] at h
    unfold openX
    rw [hC]; exact h
  obtain ⟨M, eM⟩ : ∃ A, A = hmac O P := ⟨_, rfl⟩
  rw [← eM] at c12
  have hO : (M = K ∧ openE O K C = 0 ∧ openS O K C = P) ∨ (M ≠ K ∧ openE O K C = 22 ∧ openS O K C = []) := by
    rcases open_cases O K C with ⟨h, _⟩ | ⟨_, h, _⟩ | ⟨_, _, h, h1, h2⟩ | ⟨_, _, h, h1, h2⟩
    · exact absurd ⟨lO, lK⟩ h
    · exact absurd lC h
    · rw [hX, ← eM] at h; exact .inr ⟨h, h1, h2⟩
    · rw [hX, ← eM] at h; rw [hX] at h2; exact .inl ⟨h, h1, h2⟩
  obtain ⟨oe, eoe⟩ : ∃ A, A = openE O K C := ⟨_, rfl⟩
  obtain ⟨os, eos⟩ : ∃ A, A = openS O K C := ⟨_, rfl⟩
  rw [← eoe, ← eos] at c11 hO
  have hCl : (C.length : Int) = 256 := by omega
  have hPl : (P.length : Int) = 256 := by omega
  have hZl : (Z.length : Int) = 32 := by omega
  have hKl : (K.length : Int) = 32 := by omega
  have cv := fun W fr => run_convert_one x W fr
  have le1 : ¬ 9223372036854775807 < K.length + 7 := by omega
  have le2 : ¬ 9223372036854775807 < K.length + 7 + 1 := by omega
  have x8 : (x.toNat : Int) < 8 := by omega
  have x0 : (0 : Int) ≤ (x.toNat : Int) := by omega
  have HLen := Lib.hid (And.intro lC (And.intro lP lZ))
  have HBY := Lib.hid hbytes
  have HO := Lib.hid hO
  have H := Lib.hid (And.intro c1 (And.intro c2 (And.intro c3 (And.intro c4 (And.intro c5 (And.intro c6 (And.intro c7 (And.intro c8 (And.intro c9 (And.intro c10 (And.intro c11 c12)))))))))))
  clear c1 c2 c3 c4 c5 c6 c7 c8 c9 c10 c11 c12 eD eP eO lD lP lO ex hx8 hb hbs lK hC eK eC lC eS hpc eZ lZ hbytes hX eM hO eoe eos hG hd0 hp0 ho0 v0 v1
  go_enter Tryd.func9, Tryd.ntmps9
  go_wp2_with (first
    | (go_at_call 11; refine (St.callG HS awake_any).mono ?_; clear HS; rintro e w' ⟨rfl, HS⟩)
    | (go_at_call 16; with_reducible refine (St.callR HS H.out.1).mono ?_; clear HS; rintro e w' ⟨rfl, HS⟩)
    | (go_at_call 16; with_reducible refine (St.callR HS H.out.2.1).mono ?_; clear HS; rintro e w' ⟨rfl, HS⟩)
    | (go_at_call 17; with_reducible refine (St.still HS (H.out.2.2.2.1 _)).mono ?_; clear HS; rintro e w4 ⟨rfl, HS⟩)
    | (go_at_call 20; refine (St.callG HS H.out.2.2.2.2.1).mono ?_; clear HS; rintro e w' ⟨rfl, HS⟩)
    | (go_at_call 18; refine (St.callG HS H.out.2.2.2.2.2.1).mono ?_; clear HS; rintro e w' ⟨rfl, HS⟩)
    | (go_at_call 22; refine (St.callG HS H.out.2.2.2.2.2.2.2.1).mono ?_; clear HS; rintro e w' ⟨rfl, HS⟩)
    | (go_at_call 30; with_reducible refine (St.callG HS H.out.2.2.2.2.2.2.1).mono ?_; clear HS; rintro e w' ⟨rfl, HS⟩)
    | (go_at_call 31; with_reducible refine (St.callG HS H.out.2.2.2.2.2.2.2.2.1).mono ?_; clear HS; rintro e w' ⟨rfl, HS⟩)
    | (go_at_call 31; refine (St.callG (St.alloc HS _) H.out.2.2.2.2.2.2.2.2.2.1).mono ?_; clear HS; rintro e w5 ⟨rfl, HS⟩))
  clear cv le1 le2
  go_loopw [26] (fun v26 wr => ∃ i : Nat, i ≤ 32 ∧ v26 = .int .i64 (i : Int) ∧ Hid (St w wr)) (fun v26 _ => 32 - (intOf v26).toNat)
  case atStart => exact ⟨0, by omega, rfl, HS⟩
  case round =>
    clear HS
    obtain ⟨i, hi, hv, HS⟩ := hrel
    by_cases hlt : i < 32
    · subst hv
      obtain ⟨r, er⟩ : ∃ r, r = 32 * x.toNat + i := ⟨_, rfl⟩
      obtain ⟨a, ea, ha⟩ := str_byte C r (by have := HLen.out.1; omega)
      obtain ⟨b, eb, hb⟩ := str_byte P r (by have := HLen.out.2.1; omega)
      obtain ⟨c, ec, hc⟩ := str_byte Z i (by have := HLen.out.2.2; omega)
      have hx : bits BinOp.xor IntKind.u8 (b.toNat : Int) (c.toNat : Int) = (a.toNat : Int) := by
        rw [u8_xor8, ea, eb, ec, er, HBY.out i hlt]
      have hr : 32 * (x.toNat : Int) + (i : Int) = (r : Int) := by omega
      have q1 : IntKind.i64.wrap (32 * (x.toNat : Int)) = 32 * (x.toNat : Int) := by rw [IntKind.wrap_i64]; omega
      have q2 : IntKind.i64.wrap (32 * (x.toNat : Int) + (i : Int)) = (r : Int) := by rw [IntKind.wrap_i64, hr]; omega
      have r0 : (0 : Int) ≤ (r : Int) := by omega
      have rc : (r : Int) < (C.length : Int) := by omega
      have rp : (r : Int) < (P.length : Int) := by omega
      have rz : (i : Int) < (Z.length : Int) := by omega
      have i0 : (0 : Int) ≤ (i : Int) := by omega
      have i1 : (i : Int) < 32 := by omega
      clear er ea eb ec hCl hPl hZl hKl hr
      go_wp2_with fail
      go_still (by kernel_rfl)
      go_wp2
      go_roundw
      case rel => exact ⟨i + 1, by omega, by go_num, St.below HS ((Below.refl _ _).drew)⟩
      case measure => simp [intOf]; omega
    · obtain rfl : i = 32 := by omega
      replace hv := hv.trans (show _ = Value.int .i64 32 from rfl)
      subst hv
      clear HBY HLen
      rcases HO.out with ⟨hM, rfl, rfl⟩ | ⟨hM, rfl, rfl⟩
      · have hE : (M == K) = true := by simpa using hM
        clear HO hM
        go_wp2_with (first
          | (go_at_call 16; refine (St.callR HS H.out.2.2.1).mono ?_; clear HS; rintro e w' ⟨rfl, HS⟩)
          | (go_at_call 24; refine (St.callG HS H.out.2.2.2.2.2.2.2.2.2.2.1).mono ?_; clear HS; rintro e w' ⟨rfl, HS⟩)
          | (go_at_call 30; refine (St.callG HS H.out.2.2.2.2.2.2.2.2.2.2.2).mono ?_; clear HS; rintro e w' ⟨rfl, HS⟩))
        go_ret
        exact ⟨rfl, HS.out.2⟩
      · have hE : (M == K) = false := by simpa using hM
        clear HO hM
        go_wp2_with (first
          | (go_at_call 16; refine (St.callR HS H.out.2.2.1).mono ?_; clear HS; rintro e w' ⟨rfl, HS⟩)
          | (go_at_call 24; refine (St.callG HS H.out.2.2.2.2.2.2.2.2.2.2.1).mono ?_; clear HS; rintro e w' ⟨rfl, HS⟩)
          | (go_at_call 30; refine (St.callG HS H.out.2.2.2.2.2.2.2.2.2.2.2).mono ?_; clear HS; rintro e w' ⟨rfl, HS⟩))
        go_ret
        exact ⟨rfl, HS.out.2⟩
end Go.Proofs.YtpdnbdfkcpofaaaDoor
