/- strongboxlaw1.HashMacs: the walk. -/
import Derived.Test.YticmnckkhbniaaaDoorKnown1
namespace Sbx
theorem hmac_sha (k t : List UInt8) (h : 64 < k.length) : hmac (sha k) t = hmac k t := by
  have e : hkey (sha k) = hkey k := by
    unfold hkey
    rw [if_pos h, if_neg (by rw [sha_length]; omega)]
  unfold hmac
  rw [e]
theorem hmac_zero (k t : List UInt8) (h : k.length < 64) : hmac (k ++ [0]) t = hmac k t := by
  have e : hpad (hkey (k ++ [0])) = hpad (hkey k) := by
    unfold hkey hpad
    have h1 : ¬ 64 < k.length := by omega
    have h2 : ¬ 64 < (k ++ [(0 : UInt8)]).length := by simp; omega
    rw [if_neg h1, if_neg h2, List.append_assoc]
    congr 1
    rw [show 64 - k.length = (64 - (k ++ [0]).length) + 1 from by simp; omega, List.replicate_succ]
    rfl
  unfold hmac
  rw [e]
end Sbx
namespace Go.Proofs.YticmnckkhbniaaaDoor
open Go.RowKit Sbx Go.Sort

set_option maxRecDepth 100000 in
theorem hashmacs_any (k t : List UInt8) (w : World) (hG : Glob w) (hk : k.length ≤ 140737488353000) (ht : t.length ≤ 140737488353000) :
    Calls Tryd.prog 4 #[.string ⟨k.toArray⟩, .string ⟨t.toArray⟩] w fun e w' => e = .returned (.bool true) ∧ Below w.heap.size w w' := by
  obtain ⟨m, em⟩ : ∃ m, m = hmac k t := ⟨_, rfl⟩
  have ca := fun W (h : Glob W) => mac_any k t W h (by omega) (by omega)
  have cr := fun W => rmac_any k t W (by omega) (by omega)
  have cz := fun W (h : Glob W) (hl : k.length < 64) => mac_any (k ++ [0]) t W h (by simp; omega) (by omega)
  have cs := fun W (h : Glob W) => sum_any k W h (by omega)
  have ch := fun W (h : Glob W) (hl : 64 < k.length) => mac_any (sha k) t W h (by rw [sha_length]; omega) (by omega)
  obtain ⟨u, eu⟩ : ∃ u, u = sha k := ⟨_, rfl⟩
  rw [← em] at ca cr
  have cz' : ∀ W, Glob W → k.length < 64 → Calls Tryd.prog 15 #[.string (⟨k.toArray⟩ ++ ⟨#[0]⟩), .string ⟨t.toArray⟩] W fun e w' => e = .returned (.string ⟨m.toArray⟩) ∧ Below W.heap.size W w' := fun W h hl => by
    have := cz W h hl
    rw [hmac_zero k t hl, ← em, ← str_app] at this
    exact this
  have ch' : ∀ W, Glob W → 64 < k.length → Calls Tryd.prog 15 #[.string ⟨u.toArray⟩, .string ⟨t.toArray⟩] W fun e w' => e = .returned (.string ⟨m.toArray⟩) ∧ Below W.heap.size W w' := fun W h hl => by
    have := ch W h hl
    rw [hmac_sha k t hl, ← em, ← eu] at this
    exact this
  rw [← eu] at cs
  have H := Lib.hid (And.intro ca (And.intro cr (And.intro cz' (And.intro cs ch'))))
  have HG := Lib.hid hG
  have le1 : ¬ 9223372036854775807 < k.length + 1 := by omega
  clear ca cr cz cs ch cz' ch' em eu hG hk ht
  rcases Nat.lt_trichotomy k.length 64 with hl | hl | hl
  · have h1 : (k.length : Int) < 64 := by omega
    have h2 : ¬ (64 : Int) < (k.length : Int) := by omega
    have HL := Lib.hid hl
    clear hl
    go_enter Tryd.func4, Tryd.ntmps4
    go_wp2_with fail
    refine (known_any _ HG.out).mono ?_
    rintro e w1 ⟨rfl, hB⟩
    have hG1 := Lib.hid (HG.out.below hB)
    have HB1 := Lib.hid hB
    clear HG hB
    go_wp2_with fail
    refine (H.out.1 _ hG1.out).mono ?_
    rintro e w2 ⟨rfl, hB⟩
    have hG2 := Lib.hid (hG1.out.below hB)
    have HB2 := Lib.hid (HB1.out.trans (hB.mono HB1.out.size))
    clear hG1 HB1 hB
    go_wp2_with fail
    refine (H.out.2.2.1 _ hG2.out HL.out).mono ?_
    rintro e w3 ⟨rfl, hB⟩
    have HB3 := Lib.hid (HB2.out.trans (hB.mono HB2.out.size))
    clear hG2 HB2 hB
    go_wp2_with fail
    refine (H.out.2.1 _).mono ?_
    rintro e w4 ⟨rfl, hB⟩
    have HB4 := Lib.hid (HB3.out.trans (hB.mono HB3.out.size))
    clear HB3 hB
    go_wp2_with fail
    go_ret
    exact ⟨rfl, HB4.out⟩
  · have h1 : ¬ (k.length : Int) < 64 := by omega
    have h2 : ¬ (64 : Int) < (k.length : Int) := by omega
    clear hl
    go_enter Tryd.func4, Tryd.ntmps4
    go_wp2_with fail
    refine (known_any _ HG.out).mono ?_
    rintro e w1 ⟨rfl, hB⟩
    have hG1 := Lib.hid (HG.out.below hB)
    have HB1 := Lib.hid hB
    clear HG hB
    go_wp2_with fail
    refine (H.out.1 _ hG1.out).mono ?_
    rintro e w2 ⟨rfl, hB⟩
    have HB2 := Lib.hid (HB1.out.trans (hB.mono HB1.out.size))
    clear hG1 HB1 hB
    go_wp2_with fail
    refine (H.out.2.1 _).mono ?_
    rintro e w3 ⟨rfl, hB⟩
    have HB3 := Lib.hid (HB2.out.trans (hB.mono HB2.out.size))
    clear HB2 hB
    go_wp2_with fail
    go_ret
    exact ⟨rfl, HB3.out⟩
  · have h1 : ¬ (k.length : Int) < 64 := by omega
    have h2 : (64 : Int) < (k.length : Int) := by omega
    have HL := Lib.hid hl
    clear hl
    go_enter Tryd.func4, Tryd.ntmps4
    go_wp2_with fail
    refine (known_any _ HG.out).mono ?_
    rintro e w1 ⟨rfl, hB⟩
    have hG1 := Lib.hid (HG.out.below hB)
    have HB1 := Lib.hid hB
    clear HG hB
    go_wp2_with fail
    refine (H.out.1 _ hG1.out).mono ?_
    rintro e w2 ⟨rfl, hB⟩
    have hG2 := Lib.hid (hG1.out.below hB)
    have HB2 := Lib.hid (HB1.out.trans (hB.mono HB1.out.size))
    clear hG1 HB1 hB
    go_wp2_with fail
    refine (H.out.2.2.2.1 _ hG2.out).mono ?_
    rintro e w3 ⟨rfl, hB⟩
    have hG3 := Lib.hid (hG2.out.below hB)
    have HB3 := Lib.hid (HB2.out.trans (hB.mono HB2.out.size))
    clear hG2 HB2 hB
    go_wp2_with fail
    refine (H.out.2.2.2.2 _ hG3.out HL.out).mono ?_
    rintro e w4 ⟨rfl, hB⟩
    have HB4 := Lib.hid (HB3.out.trans (hB.mono HB3.out.size))
    clear HB3 hG3 hB
    go_wp2_with fail
    refine (H.out.2.1 _).mono ?_
    rintro e w5 ⟨rfl, hB⟩
    have HB5 := Lib.hid (HB4.out.trans (hB.mono HB4.out.size))
    clear HB4 hB
    go_wp2_with fail
    go_ret
    exact ⟨rfl, HB5.out⟩
end Go.Proofs.YticmnckkhbniaaaDoor
