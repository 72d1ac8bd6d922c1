/- seal and strongboxref2: BlockKey, Seal, Digest. -/
import Derived.Test.YtpdnbdfkcpofaaaDoorR2S
namespace Go.Proofs.YtpdnbdfkcpofaaaDoor
open Go.RowKit Sbx Go.Sort

/-- where a walk stands: the tables lie, and nothing that lay in w0 has turned -/
def St (w0 w : World) : Prop := Glob w ∧ Below w0.heap.size w0 w
theorem St.start {w : World} (h : Glob w) : Hid (St w w) := ⟨h, Below.refl _ _⟩
theorem St.below {w0 w w' : World} (h : Hid (St w0 w)) (hb : Below w.heap.size w w') : Hid (St w0 w') := ⟨h.out.1.below hb, h.out.2.trans (hb.mono h.out.2.size)⟩
theorem St.call {w0 w : World} {f : FuncId} {args : Array Value} {v : Ending} (h : Hid (St w0 w)) (c : Calls Tryd.prog f args w fun e w' => e = v ∧ Below w.heap.size w w') : Calls Tryd.prog f args w fun e w' => e = v ∧ Hid (St w0 w') :=
  c.mono fun _ _ ⟨he, hb⟩ => ⟨he, St.below h hb⟩
theorem St.callG {w0 w : World} {f : FuncId} {args : Array Value} {v : Ending} (h : Hid (St w0 w)) (c : ∀ W, Glob W → Calls Tryd.prog f args W fun e w' => e = v ∧ Below W.heap.size W w') : Calls Tryd.prog f args w fun e w' => e = v ∧ Hid (St w0 w') := St.call h (c w h.out.1)
theorem St.callR {w0 w : World} {f : FuncId} {args : Array Value} {v : Ending} (h : Hid (St w0 w)) (c : ∀ W, Calls Tryd.prog f args W fun e w' => e = v ∧ Below W.heap.size W w') : Calls Tryd.prog f args w fun e w' => e = v ∧ Hid (St w0 w') := St.call h (c w)
theorem St.still {w0 w : World} {f : FuncId} {args : Array Value} {v : Ending} (h : Hid (St w0 w)) (c : Calls Tryd.prog f args w fun e w' => e = v ∧ w = w') : Calls Tryd.prog f args w fun e w' => e = v ∧ Hid (St w0 w') :=
  c.mono fun _ _ ⟨he, hb⟩ => ⟨he, by rw [← hb]; exact h⟩
theorem St.alloc {w0 w : World} (h : Hid (St w0 w)) (o : Obj) : Hid (St w0 (w.alloc o)) := St.below h ((Below.refl _ _).alloc (Nat.le_refl _) o)

def bkE (d p : List UInt8) : Int := if d.length ≠ 32 then 20 else if p.length ≠ 256 then 23 else 0
def bkS (d p : List UInt8) : List UInt8 := if bkE d p = 0 then hmac d p else []
theorem bk_cases (d p : List UInt8) : (d.length ≠ 32 ∧ bkE d p = 20 ∧ bkS d p = []) ∨ (d.length = 32 ∧ p.length ≠ 256 ∧ bkE d p = 23 ∧ bkS d p = []) ∨ (d.length = 32 ∧ p.length = 256 ∧ bkE d p = 0 ∧ bkS d p = hmac d p) := by
  by_cases hd : d.length = 32
  · by_cases hp : p.length = 256
    · have : bkE d p = 0 := by unfold bkE; rw [if_neg (by simpa using hd), if_neg (by simpa using hp)]
      exact .inr (.inr ⟨hd, hp, this, by unfold bkS; rw [if_pos this]⟩)
    · have : bkE d p = 23 := by unfold bkE; rw [if_neg (by simpa using hd), if_pos hp]
      exact .inr (.inl ⟨hd, hp, this, by unfold bkS; rw [if_neg (by omega)]⟩)
  · have : bkE d p = 20 := by unfold bkE; rw [if_pos hd]
    exact .inl ⟨hd, this, by unfold bkS; rw [if_neg (by omega)]⟩
theorem bkS_length (d p : List UInt8) (h : bkE d p = 0) : (bkS d p).length = 32 := by
  unfold bkS; rw [if_pos h]; exact hmac_length _ _

set_option maxRecDepth 100000 in
theorem blockkey_any (d p : List UInt8) (w : World) (hG : Glob w) :
    Calls Tryd.prog 18 #[.string ⟨d.toArray⟩, .string ⟨p.toArray⟩] w fun e w' => e = .returned (.tuple #[.string ⟨(bkS d p).toArray⟩, .int .i64 (bkE d p)]) ∧ Below w.heap.size w w' := by
  have HS := St.start hG
  rcases bk_cases d p with ⟨hd, he, hs⟩ | ⟨hd, hp, he, hs⟩ | ⟨hd, hp, he, hs⟩
  · rw [he, hs]
    have HD := Lib.hid (show decide (d.length = 32) = false by simpa using hd)
    clear he hs hd hG
    go_enter Tryd.func18, Tryd.ntmps18
    go_wp2_with (go_at_call 37; refine (St.still (St.alloc HS _) (keys_one d _ _ (by simp))).mono ?_; clear HS; rintro e w' ⟨rfl, HS⟩; rw [HD.out])
    go_ret2
    exact ⟨rfl, HS.out.2⟩
  · rw [he, hs]
    have HD := Lib.hid (show decide (d.length = 32) = true by simpa using hd)
    have hne : ((p.length : Int) != 256) = true := by rw [bne_iff_ne]; omega
    clear he hs hd hp hG
    go_enter Tryd.func18, Tryd.ntmps18
    go_wp2_with (go_at_call 37; refine (St.still (St.alloc HS _) (keys_one d _ _ (by simp))).mono ?_; clear HS; rintro e w' ⟨rfl, HS⟩; rw [HD.out])
    go_ret2
    exact ⟨rfl, HS.out.2⟩
  · rw [he, hs]
    have HD := Lib.hid (show decide (d.length = 32) = true by simpa using hd)
    have hne : ((p.length : Int) != 256) = false := by rw [bne_eq_false_iff_eq]; omega
    have c := fun W (h : Glob W) => mac_any d p W h (by omega) (by omega)
    obtain ⟨m, em⟩ : ∃ m, m = hmac d p := ⟨_, rfl⟩
    rw [← em] at c ⊢
    have C := Lib.hid c
    clear he hs hd hp em c hG
    go_enter Tryd.func18, Tryd.ntmps18
    go_wp2_with (first
      | (go_at_call 37; refine (St.still (St.alloc HS _) (keys_one d _ _ (by simp))).mono ?_; clear HS; rintro e w' ⟨rfl, HS⟩; rw [HD.out])
      | (go_at_call 30; refine (St.call HS (C.out _ HS.out.1)).mono ?_; clear HS; rintro e w' ⟨rfl, HS⟩))
    go_ret2
    exact ⟨rfl, HS.out.2⟩

set_option maxRecDepth 100000 in
theorem rblockkey_any (d p : List UInt8) (w : World) :
    Calls Tryd.prog 19 #[.string ⟨d.toArray⟩, .string ⟨p.toArray⟩] w fun e w' => e = .returned (.tuple #[.string ⟨(bkS d p).toArray⟩, .int .i64 (bkE d p)]) ∧ Below w.heap.size w w' := by
  rcases bk_cases d p with ⟨hd, he, hs⟩ | ⟨hd, hp, he, hs⟩ | ⟨hd, hp, he, hs⟩
  · rw [he, hs]
    have hne : ((d.length : Int) != 32) = true := by rw [bne_iff_ne]; omega
    clear he hs hd
    go_enter Tryd.func19, Tryd.ntmps19
    go_wp2_with fail
    go_ret2
    exact ⟨rfl, Below.refl _ _⟩
  · rw [he, hs]
    have hn1 : ((d.length : Int) != 32) = false := by rw [bne_eq_false_iff_eq]; omega
    have hne : ((p.length : Int) != 256) = true := by rw [bne_iff_ne]; omega
    clear he hs hd hp
    go_enter Tryd.func19, Tryd.ntmps19
    go_wp2_with fail
    go_ret2
    exact ⟨rfl, Below.refl _ _⟩
  · rw [he, hs]
    have hn1 : ((d.length : Int) != 32) = false := by rw [bne_eq_false_iff_eq]; omega
    have hne : ((p.length : Int) != 256) = false := by rw [bne_eq_false_iff_eq]; omega
    have c := rmac_any d p w (by omega) (by omega)
    obtain ⟨m, em⟩ : ∃ m, m = hmac d p := ⟨_, rfl⟩
    rw [← em] at c ⊢
    have C := Lib.hid c
    clear he hs hd hp em c
    go_enter Tryd.func19, Tryd.ntmps19
    go_wp2_with (go_at_call 38; refine C.out.mono ?_; clear C; rintro e w' ⟨rfl, hB⟩)
    go_ret2
    exact ⟨rfl, hB⟩

/-- a sealed block -/
def sealC (d p : List UInt8) : List UInt8 := if bkE d p = 0 then xorS p (stream (bkS d p) 0 256) else []

set_option maxRecDepth 100000 in
theorem seal_any (d p : List UInt8) (w : World) (hG : Glob w) :
    Calls Tryd.prog 20 #[.string ⟨d.toArray⟩, .string ⟨p.toArray⟩] w fun e w' => e = .returned (.tuple #[.string ⟨(sealC d p).toArray⟩, .string ⟨(bkS d p).toArray⟩, .int .i64 (bkE d p)]) ∧ Below w.heap.size w w' := by
  have HS := St.start hG
  have c1 := blockkey_any d p w hG
  by_cases he : bkE d p = 0
  · have hp : p.length = 256 := by rcases bk_cases d p with ⟨_, h, _⟩ | ⟨_, _, h, _⟩ | ⟨_, h, _, _⟩ <;> omega
    have lk := bkS_length d p he
    have hc : sealC d p = xorS p (stream (bkS d p) 0 256) := by unfold sealC; rw [if_pos he]
    obtain ⟨K, eK⟩ : ∃ K, K = bkS d p := ⟨_, rfl⟩
    rw [hc]
    rw [← eK] at lk c1 ⊢
    have wi : withinV K 0 (p.length : Int) = 0 := withinV_ok.2 (by omega)
    have c2 := fun W (h : Glob W) => xor_any K 0 p W h (by omega) (by omega) (by omega) (by omega)
    have x2 : xorV K 0 p = xorS p (stream K 0 256) := by unfold xorV; rw [if_pos wi, hp]; rfl
    rw [wi, x2] at c2
    obtain ⟨X, eX⟩ : ∃ X, X = xorS p (stream K 0 256) := ⟨_, rfl⟩
    rw [← eX] at c2 ⊢
    obtain ⟨e, ee⟩ : ∃ e, e = bkE d p := ⟨_, rfl⟩
    rw [he] at c1 ⊢
    have C := Lib.hid (And.intro c1 c2)
    clear c1 c2 x2 eX wi hc eK lk hp he hG ee
    go_enter Tryd.func20, Tryd.ntmps20
    go_wp2_with (first
      | (go_at_call 18; refine (St.call HS C.out.1).mono ?_; clear HS; rintro e w' ⟨rfl, HS⟩)
      | (go_at_call 14; refine (St.call HS (C.out.2 _ HS.out.1)).mono ?_; clear HS; rintro e w' ⟨rfl, HS⟩))
    go_ret3
    exact ⟨rfl, HS.out.2⟩
  · have hc : sealC d p = [] := by unfold sealC; rw [if_neg he]
    have hs : bkS d p = [] := by unfold bkS; rw [if_neg he]
    rw [hc]
    rw [hs] at c1 ⊢
    obtain ⟨e, ee⟩ : ∃ e, e = bkE d p := ⟨_, rfl⟩
    rw [← ee] at he c1 ⊢
    have hne : (e != 0) = true := by rw [bne_iff_ne]; exact he
    have C := Lib.hid c1
    clear c1 hc hs ee he hG
    go_enter Tryd.func20, Tryd.ntmps20
    go_wp2_with (go_at_call 18; refine (St.call HS C.out).mono ?_; clear HS; rintro e w' ⟨rfl, HS⟩)
    go_ret3
    exact ⟨rfl, HS.out.2⟩

set_option maxRecDepth 100000 in
theorem rseal_any (d p : List UInt8) (w : World) :
    Calls Tryd.prog 21 #[.string ⟨d.toArray⟩, .string ⟨p.toArray⟩] w fun e w' => e = .returned (.tuple #[.string ⟨(sealC d p).toArray⟩, .string ⟨(bkS d p).toArray⟩, .int .i64 (bkE d p)]) ∧ Below w.heap.size w w' := by
  have c1 := rblockkey_any d p w
  by_cases he : bkE d p = 0
  · have hp : p.length = 256 := by rcases bk_cases d p with ⟨_, h, _⟩ | ⟨_, _, h, _⟩ | ⟨_, h, _, _⟩ <;> omega
    have lk := bkS_length d p he
    have hc : sealC d p = xorS p (stream (bkS d p) 0 256) := by unfold sealC; rw [if_pos he]
    obtain ⟨K, eK⟩ : ∃ K, K = bkS d p := ⟨_, rfl⟩
    rw [hc]
    rw [← eK] at lk c1 ⊢
    have c2 : ∀ W, _ := fun W => rpart_any K 0 256 W (by omega) (by omega) (by omega)
    obtain ⟨T, eT⟩ : ∃ T, T = stream K 0 256 := ⟨_, rfl⟩
    have lT : T.length = 256 := by rw [eT, stream_length]
    rw [← eT] at c2 ⊢
    have c3 := fun W => rlaid_any p T W (by omega) (by omega)
    obtain ⟨X, eX⟩ : ∃ X, X = xorS p T := ⟨_, rfl⟩
    rw [← eX] at c3 ⊢
    rw [he] at c1 ⊢
    have C := Lib.hid (And.intro c1 (And.intro c2 c3))
    clear c1 c2 c3 eX lT eT hc eK lk hp he
    go_enter Tryd.func21, Tryd.ntmps21
    go_wp2_with fail
    refine C.out.1.mono ?_
    rintro e w1 ⟨rfl, h1⟩
    have HB := Lib.hid h1
    clear h1
    go_wp2_with fail
    refine (C.out.2.1 w1).mono ?_
    rintro e w2 ⟨rfl, h1⟩
    have HB2 := Lib.hid (HB.out.trans (h1.mono HB.out.size))
    clear h1 HB
    go_wp2_with fail
    refine (C.out.2.2 w2).mono ?_
    rintro e w3 ⟨rfl, h1⟩
    have HB3 := Lib.hid (HB2.out.trans (h1.mono HB2.out.size))
    clear h1 HB2
    go_wp2_with fail
    go_ret3
    exact ⟨rfl, HB3.out⟩
  · have hc : sealC d p = [] := by unfold sealC; rw [if_neg he]
    have hs : bkS d p = [] := by unfold bkS; rw [if_neg he]
    rw [hc]
    rw [hs] at c1 ⊢
    obtain ⟨e, ee⟩ : ∃ e, e = bkE d p := ⟨_, rfl⟩
    rw [← ee] at he c1 ⊢
    have hne : (e != 0) = true := by rw [bne_iff_ne]; exact he
    have C := Lib.hid c1
    clear c1 hc hs ee he
    go_enter Tryd.func21, Tryd.ntmps21
    go_wp2_with (go_at_call 19; refine C.out.mono ?_; clear C; rintro e w' ⟨rfl, hB⟩)
    go_ret3
    exact ⟨rfl, hB⟩

def dgE (p : List UInt8) : Int := if p.length ≠ 256 then 23 else 0
def dgS (p : List UInt8) : List UInt8 := if p.length ≠ 256 then [] else sha p
theorem digest_any (p : List UInt8) (w : World) (hG : Glob w) :
    Calls Tryd.prog 22 #[.string ⟨p.toArray⟩] w fun e w' => e = .returned (.tuple #[.string ⟨(dgS p).toArray⟩, .int .i64 (dgE p)]) ∧ Below w.heap.size w w' := by
  by_cases hp : p.length = 256
  · have c := sum_any p w hG (by omega)
    rw [show dgS p = sha p from by unfold dgS; rw [if_neg (by simpa using hp)], show dgE p = 0 from by unfold dgE; rw [if_neg (by simpa using hp)]]
    obtain ⟨m, em⟩ : ∃ m, m = sha p := ⟨_, rfl⟩
    rw [← em] at c ⊢
    have C := Lib.hid c
    have hne : ((p.length : Int) != 256) = false := by rw [bne_eq_false_iff_eq]; omega
    clear hp c em hG
    go_enter Tryd.func22, Tryd.ntmps22
    go_wp2_with (go_at_call 31; refine C.out.mono ?_; clear C; rintro e w' ⟨rfl, hB⟩)
    go_ret2
    exact ⟨rfl, hB⟩
  · rw [show dgS p = [] from by unfold dgS; rw [if_pos hp], show dgE p = 23 from by unfold dgE; rw [if_pos hp]]
    have hne : ((p.length : Int) != 256) = true := by rw [bne_iff_ne]; omega
    clear hp hG
    go_enter Tryd.func22, Tryd.ntmps22
    go_wp2_with fail
    go_ret2
    exact ⟨rfl, Below.refl _ _⟩
theorem rdigest_any (p : List UInt8) (w : World) :
    Calls Tryd.prog 23 #[.string ⟨p.toArray⟩] w fun e w' => e = .returned (.tuple #[.string ⟨(dgS p).toArray⟩, .int .i64 (dgE p)]) ∧ Below w.heap.size w w' := by
  by_cases hp : p.length = 256
  · have c := rsum_any p w (by omega)
    rw [show dgS p = sha p from by unfold dgS; rw [if_neg (by simpa using hp)], show dgE p = 0 from by unfold dgE; rw [if_neg (by simpa using hp)]]
    obtain ⟨m, em⟩ : ∃ m, m = sha p := ⟨_, rfl⟩
    rw [← em] at c ⊢
    have C := Lib.hid c
    have hne : ((p.length : Int) != 256) = false := by rw [bne_eq_false_iff_eq]; omega
    clear hp c em
    go_enter Tryd.func23, Tryd.ntmps23
    go_wp2_with (go_at_call 39; refine C.out.mono ?_; clear C; rintro e w' ⟨rfl, hB⟩)
    go_ret2
    exact ⟨rfl, hB⟩
  · rw [show dgS p = [] from by unfold dgS; rw [if_pos hp], show dgE p = 23 from by unfold dgE; rw [if_pos hp]]
    have hne : ((p.length : Int) != 256) = true := by rw [bne_iff_ne]; omega
    clear hp
    go_enter Tryd.func23, Tryd.ntmps23
    go_wp2_with fail
    go_ret2
    exact ⟨rfl, Below.refl _ _⟩
end Go.Proofs.YtpdnbdfkcpofaaaDoor
