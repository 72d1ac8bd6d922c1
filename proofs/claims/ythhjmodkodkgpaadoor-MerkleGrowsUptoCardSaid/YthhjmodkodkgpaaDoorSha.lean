/- The digest as plain Lean: SHA-256 over lists of bytes. -/
namespace Sbx

def m32 (n : Nat) : Nat := n % 4294967296
def rl (x s : Nat) : Nat := ((x * 2 ^ s) % 4294967296) ||| (x / 2 ^ (32 - s))
def ssig1 (x : Nat) : Nat := rl x 15 ^^^ rl x 13 ^^^ (x / 1024)
def ssig0 (x : Nat) : Nat := rl x 25 ^^^ rl x 14 ^^^ (x / 8)
def bsig1 (x : Nat) : Nat := rl x 26 ^^^ rl x 21 ^^^ rl x 7
def bsig0 (x : Nat) : Nat := rl x 30 ^^^ rl x 19 ^^^ rl x 10
def chf (e f g : Nat) : Nat := (e &&& f) ^^^ ((4294967295 ^^^ e) &&& g)
def maj (a b c : Nat) : Nat := (a &&& b) ^^^ (a &&& c) ^^^ (b &&& c)

/-- the t-th word of a piece of bytes -/
def word (b : List UInt8) (t : Nat) : Nat :=
  (b.getD (4*t) 0).toNat * 16777216 + (b.getD (4*t+1) 0).toNat * 65536 + (b.getD (4*t+2) 0).toNat * 256 + (b.getD (4*t+3) 0).toNat

/-- the first t words of a piece's schedule -/
def sched (b : List UInt8) : Nat → List Nat
  | 0 => []
  | t + 1 =>
    let l := sched b t
    l ++ [if t < 16 then word b t else (ssig1 (l.getD (t-2) 0) + l.getD (t-7) 0 + ssig0 (l.getD (t-15) 0) + l.getD (t-16) 0) % 4294967296]

structure St where
  (a b c d e f g h : Nat)
  deriving DecidableEq

def ks : List Nat := [
  0x428a2f98, 0x71374491, 0xb5c0fbcf, 0xe9b5dba5, 0x3956c25b, 0x59f111f1, 0x923f82a4, 0xab1c5ed5,
  0xd807aa98, 0x12835b01, 0x243185be, 0x550c7dc3, 0x72be5d74, 0x80deb1fe, 0x9bdc06a7, 0xc19bf174,
  0xe49b69c1, 0xefbe4786, 0x0fc19dc6, 0x240ca1cc, 0x2de92c6f, 0x4a7484aa, 0x5cb0a9dc, 0x76f988da,
  0x983e5152, 0xa831c66d, 0xb00327c8, 0xbf597fc7, 0xc6e00bf3, 0xd5a79147, 0x06ca6351, 0x14292967,
  0x27b70a85, 0x2e1b2138, 0x4d2c6dfc, 0x53380d13, 0x650a7354, 0x766a0abb, 0x81c2c92e, 0x92722c85,
  0xa2bfe8a1, 0xa81a664b, 0xc24b8b70, 0xc76c51a3, 0xd192e819, 0xd6990624, 0xf40e3585, 0x106aa070,
  0x19a4c116, 0x1e376c08, 0x2748774c, 0x34b0bcb5, 0x391c0cb3, 0x4ed8aa4a, 0x5b9cca4f, 0x682e6ff3,
  0x748f82ee, 0x78a5636f, 0x84c87814, 0x8cc70208, 0x90befffa, 0xa4506ceb, 0xbef9a3f7, 0xc67178f2]
def iv : St := ⟨0x6a09e667, 0xbb67ae85, 0x3c6ef372, 0xa54ff53a, 0x510e527f, 0x9b05688c, 0x1f83d9ab, 0x5be0cd19⟩

def rnd (s : St) (k w : Nat) : St :=
  let one := (s.h + bsig1 s.e + chf s.e s.f s.g + k + w) % 4294967296
  let two := (bsig0 s.a + maj s.a s.b s.c) % 4294967296
  ⟨(one + two) % 4294967296, s.a, s.b, s.c, (s.d + one) % 4294967296, s.e, s.f, s.g⟩
def rnds (w : List Nat) : Nat → St → St
  | 0, s => s
  | t + 1, s => rnd (rnds w t s) (ks.getD t 0) (w.getD t 0)
def St.add (s t : St) : St := ⟨m32 (s.a+t.a), m32 (s.b+t.b), m32 (s.c+t.c), m32 (s.d+t.d), m32 (s.e+t.e), m32 (s.f+t.f), m32 (s.g+t.g), m32 (s.h+t.h)⟩
@[irreducible] def compress (s : St) (b : List UInt8) : St := s.add (rnds (sched b 64) 64 s)
/-- n pieces from the front -/
def pieces : Nat → List UInt8 → St → St
  | 0, _, s => s
  | n + 1, b, s => pieces n (b.drop 64) (compress s (b.take 64))
def be4 (x : Nat) : List UInt8 := [(x / 16777216).toUInt8, (x / 65536).toUInt8, (x / 256).toUInt8, x.toUInt8]
@[irreducible] def St.out (s : St) : List UInt8 := be4 s.a ++ be4 s.b ++ be4 s.c ++ be4 s.d ++ be4 s.e ++ be4 s.f ++ be4 s.g ++ be4 s.h
def be8 (n : Nat) : List UInt8 := [(n / 2^56).toUInt8, (n / 2^48).toUInt8, (n / 2^40).toUInt8, (n / 2^32).toUInt8, (n / 2^24).toUInt8, (n / 2^16).toUInt8, (n / 2^8).toUInt8, n.toUInt8]
def padded (s : List UInt8) : List UInt8 := s ++ [128] ++ List.replicate ((119 - s.length % 64) % 64) 0 ++ be8 (8 * s.length)
def sha (s : List UInt8) : List UInt8 := (pieces ((padded s).length / 64) (padded s) iv).out
end Sbx
open Sbx
