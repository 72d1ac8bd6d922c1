/- Plain laws of the digest: what a Hasher holds after any parts. -/
import Derived.Test.YthhjmodkodkgpaaDoorSha
namespace Sbx

theorem pieces_zero (b : List UInt8) (s : St) : pieces 0 b s = s := by conv => lhs; unfold pieces
theorem pieces_succ (n : Nat) (b : List UInt8) (s : St) : pieces (n + 1) b s = pieces n (b.drop 64) (compress s (b.take 64)) := by
  conv => lhs; unfold pieces
theorem pieces_add (m n : Nat) : ∀ (b : List UInt8) (s : St), pieces (m + n) b s = pieces n (b.drop (64 * m)) (pieces m b s) := by
  induction m with
  | zero => intro b s; rw [Nat.zero_add, Nat.mul_zero, List.drop_zero, pieces_zero]
  | succ m ih =>
    intro b s
    have e : m + 1 + n = (m + n) + 1 := by omega
    rw [e, pieces_succ (m+n), pieces_succ m, ih, List.drop_drop]
    have e2 : 64 + 64 * m = 64 * (m + 1) := by omega
    rw [e2]

theorem pieces_succ' (m : Nat) (b : List UInt8) (s : St) : pieces (m + 1) b s = compress (pieces m b s) ((b.drop (64 * m)).take 64) := by
  rw [pieces_add, show (1 : Nat) = 0 + 1 from rfl, pieces_succ, pieces_zero]

theorem pieces_take (n : Nat) : ∀ (b : List UInt8) (s : St), pieces n (b.take (64 * n)) s = pieces n b s := by
  induction n with
  | zero => intro b s; rw [pieces_zero, pieces_zero]
  | succ n ih =>
    intro b s
    rw [pieces_succ, pieces_succ]
    rw [List.take_take, show min 64 (64 * (n + 1)) = 64 from by omega]
    rw [← ih (b.drop 64), ← ih (List.drop 64 (b.take (64 * (n + 1))))]
    congr 1
    rw [List.drop_take, List.take_take]
    congr 1
    omega

theorem pieces_append (n : Nat) (b c : List UInt8) (s : St) (h : 64 * n ≤ b.length) : pieces n (b ++ c) s = pieces n b s := by
  rw [← pieces_take n (b ++ c), ← pieces_take n b, List.take_append_of_le_length h]

/-- what a Hasher holds that has taken t -/
structure HInv (s : St) (rest : List UInt8) (size : Nat) (t : List UInt8) : Prop where
  size : size = t.length
  len : rest.length = 64
  state : s = pieces (t.length / 64) t iv
  rest : rest.take (t.length % 64) = t.drop (64 * (t.length / 64))

/-- the piece after n more bytes -/
def refill (rest : List UInt8) (at_ : Nat) (s : List UInt8) : List UInt8 := rest.take at_ ++ s ++ rest.drop (at_ + s.length)

theorem refill_length {rest : List UInt8} {at_ : Nat} {s : List UInt8} (h : at_ + s.length ≤ rest.length) : (refill rest at_ s).length = rest.length := by
  simp [refill]; omega

theorem HInv.step_part {st : St} {rest : List UInt8} {size : Nat} {t s : List UInt8} (h : HInv st rest size t) (hn : t.length % 64 + s.length < 64) :
    HInv st (refill rest (t.length % 64) s) (size + s.length) (t ++ s) := by
  have e : (t ++ s).length / 64 = t.length / 64 := by simp; omega
  have e2 : (t ++ s).length % 64 = t.length % 64 + s.length := by simp; omega
  have hl := h.len
  refine ⟨by simp [h.size], by rw [refill_length (by omega)]; exact hl, ?_, ?_⟩
  · rw [e, h.state, pieces_append _ _ _ _ (by omega)]
  · rw [e, e2, List.drop_append_of_le_length (by omega), ← h.rest]
    unfold refill
    rw [List.append_assoc, List.take_append, List.take_append]
    have hm : min (t.length % 64) 64 = t.length % 64 := by omega
    simp [hl, hm, List.take_take]

theorem HInv.step_full {st : St} {rest : List UInt8} {size : Nat} {t s : List UInt8} (h : HInv st rest size t) (hn : t.length % 64 + s.length = 64) :
    HInv (compress st (refill rest (t.length % 64) s)) (refill rest (t.length % 64) s) (size + s.length) (t ++ s) := by
  have e : (t ++ s).length / 64 = t.length / 64 + 1 := by simp; omega
  have e2 : (t ++ s).length % 64 = 0 := by simp; omega
  have hl := h.len
  refine ⟨by simp [h.size], by rw [refill_length (by omega)]; exact hl, ?_, ?_⟩
  · rw [e, pieces_succ', h.state, pieces_append _ _ _ _ (by omega)]
    congr 1
    rw [List.drop_append_of_le_length (by omega), ← h.rest]
    unfold refill
    have hn2 : (List.take (t.length % 64) rest ++ s).length ≤ 64 := by
      rw [List.length_append, List.length_take]; omega
    rw [hn, List.drop_of_length_le (show rest.length ≤ 64 by omega), List.append_nil, List.take_of_length_le hn2]
  · rw [e, e2]
    simp
    omega

theorem be4_length (x : Nat) : (be4 x).length = 4 := rfl
theorem out_length (s : St) : s.out.length = 32 := by simp [St.out, be4]
theorem sha_length (s : List UInt8) : (sha s).length = 32 := out_length _

theorem padded_length (s : List UInt8) : (padded s).length % 64 = 0 := by
  simp only [padded, be8, List.length_append, List.length_cons, List.length_nil, List.length_replicate]; omega

/-- the state of a Hasher that has taken the whole padded text -/
theorem HInv.done {st : St} {rest : List UInt8} {size : Nat} {t : List UInt8} (h : HInv st rest size (padded t)) : st.out = sha t := by
  rw [h.state]; unfold sha; rfl
theorem HInv.fresh (rest : List UInt8) (h : rest.length = 64) : HInv iv rest 0 [] := ⟨rfl, h, (pieces_zero _ _).symm, rfl⟩
end Sbx
