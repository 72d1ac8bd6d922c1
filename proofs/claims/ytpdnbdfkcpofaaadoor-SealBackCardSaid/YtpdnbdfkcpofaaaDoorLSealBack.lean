/- strongboxlaw2.SealBack: the walk. -/
import Derived.Test.YtpdnbdfkcpofaaaDoorLSealOpens
import Derived.Test.YtpdnbdfkcpofaaaDoorWrap2
import Derived.Test.YtpdnbdfkcpofaaaDoorPick2
namespace Go.Proofs.YtpdnbdfkcpofaaaDoor
open Go.RowKit Sbx Go.Sort

theorem hide_twice (W k : List UInt8) (hk : k.length = 32) : hideX W (hideX W k) = k := by
  have h := xor_twice W 0 k
  rw [xorS_length, hk] at h
  exact h
theorem unwrap_wrapped (m : List UInt8) (v b : Int) (k : List UInt8) (hm : m.length = 32) (hk : k.length = 32) (hp : placeE v b = 0) :
    wrapE m v b k = 0 ∧ (wrapS m v b k).length = 48 ∧ unwrapE m v b (wrapS m v b k) = 0 ∧ unwrapS m v b (wrapS m v b k) = k := by
  have he : wrapE m v b k = 0 := by unfold wrapE; rw [if_neg (by simp [hm, hk]), hp]
  have hs : wrapS m v b k = wrapX (placeW m v.toNat b.toNat) k := by unfold wrapS; rw [if_pos he]
  obtain ⟨W, eW⟩ : ∃ W, W = placeW m v.toNat b.toNat := ⟨_, rfl⟩
  have lX : (hideX W k).length = 32 := by unfold hideX; rw [xorS_length, hk]
  have hl : (wrapX W k).length = 48 := by unfold wrapX; rw [List.length_append, lX, tagS_length]
  have ht : (wrapX W k).take 32 = hideX W k := by unfold wrapX; rw [List.take_append_of_le_length (by omega), List.take_of_length_le (by omega)]
  have hd : (wrapX W k).drop 32 = tagS W (hideX W k) := by unfold wrapX; rw [← lX]; exact List.drop_left
  rw [hs, ← eW]
  have hu : unwrapE m v b (wrapX W k) = 0 := by
    unfold unwrapE
    rw [if_neg (by simpa using hm), if_neg (by simpa using hp), if_neg (by simpa using hl), ← eW, ht, hd, if_neg (by simp)]
  exact ⟨he, hl, hu, by unfold unwrapS; rw [if_pos hu, ← eW, ht, hide_twice _ _ hk]⟩
theorem pick_place (a b : Int) : placeE (pickI a 100) (pickI b 60) = 0 := by
  have h1 := pickI_nonneg a 100 (by omega)
  have h2 := pickI_lt a 100 (by omega)
  have h3 := pickI_nonneg b 60 (by omega)
  have h4 := pickI_lt b 60 (by omega)
  unfold placeE
  rw [if_neg (by omega)]

set_option maxRecDepth 100000 in
set_option maxHeartbeats 1000000 in
theorem sealback_any (d p m : List UInt8) (v b : Int) (w : World) (hG : Glob w) (hd0 : d.length ≤ 140737488354000) (hp0 : p.length ≤ 140737488354000) (hm0 : m.length ≤ 140737488354000)
    (v0 : -9223372036854775808 ≤ v) (v1 : v ≤ 9223372036854775807) (b0 : -9223372036854775808 ≤ b) (b1 : b ≤ 9223372036854775807) :
    Calls Tryd.prog 10 #[.string ⟨d.toArray⟩, .string ⟨p.toArray⟩, .string ⟨m.toArray⟩, .int .i64 v, .int .i64 b] w fun e w' => e = .returned (.bool true) ∧ Below w.heap.size w w' := by
  have HS := St.start hG
  have c1 := fun W => shaped32 d W (by omega)
  have c2 := fun W => shaped256 p W (by omega)
  have c3 := fun W => shaped32 m W (by omega)
  obtain ⟨D, eD⟩ : ∃ A, A = shapeV d 32 := ⟨_, rfl⟩
  obtain ⟨P, eP⟩ : ∃ A, A = shapeV p 256 := ⟨_, rfl⟩
  obtain ⟨M, eM⟩ : ∃ A, A = shapeV m 32 := ⟨_, rfl⟩
  have lD : D.length = 32 := by rw [eD]; exact shapeV_length _ _
  have lP : P.length = 256 := by rw [eP]; exact shapeV_length _ _
  have lM : M.length = 32 := by rw [eM]; exact shapeV_length _ _
  rw [← eD] at c1
  rw [← eP] at c2
  rw [← eM] at c3
  have c4 := fun W => pick_any v 100 W (by omega) v0 v1
  have c5 := fun W => pick_any b 60 W (by omega) b0 b1
  have hpl := pick_place v b
  obtain ⟨V, eV⟩ : ∃ A, A = pickI v 100 := ⟨_, rfl⟩
  obtain ⟨B, eB⟩ : ∃ A, A = pickI b 60 := ⟨_, rfl⟩
  rw [← eV] at c4 hpl
  rw [← eB] at c5 hpl
  have c6 := fun W (h : Glob W) => seal_any D P W h
  obtain ⟨o1, o2⟩ := open_sealed D P lD lP
  have hb : bkE D P = 0 := by unfold bkE; rw [if_neg (by simpa using lD), if_neg (by simpa using lP)]
  have lK := bkS_length D P hb
  have lC : (sealC D P).length = 256 := by unfold sealC; rw [if_pos hb, xorS_length, lP]
  rw [hb] at c6
  obtain ⟨K, eK⟩ : ∃ A, A = bkS D P := ⟨_, rfl⟩
  obtain ⟨C, eC⟩ : ∃ A, A = sealC D P := ⟨_, rfl⟩
  rw [← eK, ← eC] at c6 o1 o2
  rw [← eK] at lK
  rw [← eC] at lC
  have c7 := fun W (h : Glob W) => open_any D K C W h
  rw [o1, o2] at c7
  obtain ⟨u1, u2, u3, u4⟩ := unwrap_wrapped M V B K lM lK hpl
  have c8 := fun W (h : Glob W) => wrap_any M V B K W h
  rw [u1] at c8
  obtain ⟨X, eX⟩ : ∃ A, A = wrapS M V B K := ⟨_, rfl⟩
  rw [← eX] at c8 u2 u3 u4
  have c9 := fun W (h : Glob W) => unwrap_any M V B X W h
  rw [u3, u4] at c9
  have hC : (C.length : Int) = 256 := by omega
  have hX : (X.length : Int) = 48 := by omega
  have H := Lib.hid (And.intro c1 (And.intro c2 (And.intro c3 (And.intro c4 (And.intro c5 (And.intro c6 (And.intro c7 (And.intro c8 c9))))))))
  clear c1 c2 c3 c4 c5 c6 c7 c8 c9 eD eP eM lD lP lM eV eB hpl o1 o2 hb lK eK eC u1 u3 u4 eX hG hd0 hp0 hm0 v0 v1 b0 b1
  go_enter Tryd.func10, Tryd.ntmps10
  go_wp2_with (first
    | (go_at_call 11; refine (St.callG HS awake_any).mono ?_; clear HS; rintro e w' ⟨rfl, HS⟩)
    | (go_at_call 16; with_reducible refine (St.callR HS H.out.1).mono ?_; clear HS; rintro e w' ⟨rfl, HS⟩)
    | (go_at_call 16; with_reducible refine (St.callR HS H.out.2.1).mono ?_; clear HS; rintro e w' ⟨rfl, HS⟩)
    | (go_at_call 16; with_reducible refine (St.callR HS H.out.2.2.1).mono ?_; clear HS; rintro e w' ⟨rfl, HS⟩)
    | (go_at_call 17; with_reducible refine (St.still HS (H.out.2.2.2.1 _)).mono ?_; clear HS; rintro e w' ⟨rfl, HS⟩)
    | (go_at_call 17; with_reducible refine (St.still HS (H.out.2.2.2.2.1 _)).mono ?_; clear HS; rintro e w' ⟨rfl, HS⟩)
    | (go_at_call 20; refine (St.callG HS H.out.2.2.2.2.2.1).mono ?_; clear HS; rintro e w' ⟨rfl, HS⟩)
    | (go_at_call 24; refine (St.callG HS H.out.2.2.2.2.2.2.1).mono ?_; clear HS; rintro e w' ⟨rfl, HS⟩)
    | (go_at_call 26; refine (St.callG HS H.out.2.2.2.2.2.2.2.1).mono ?_; clear HS; rintro e w' ⟨rfl, HS⟩)
    | (go_at_call 28; refine (St.callG HS H.out.2.2.2.2.2.2.2.2).mono ?_; clear HS; rintro e w' ⟨rfl, HS⟩))
  go_ret
  exact ⟨rfl, HS.out.2⟩
end Go.Proofs.YtpdnbdfkcpofaaaDoor
