/-
  What the functions of chapter 2 compute, on lists of bits: no program in sight.
-/
import Derived.Test.YtbfakdpnefhgkaaDoorMem
namespace Go.Proofs.YtbfakdpnefhgkaaDoor
open Bv Mem
def rotl (x : BitVec 32) (n : Nat) : BitVec 32 := x <<< n ||| x >>> (32 - n)
def quarter (a b c d : BitVec 32) : BitVec 32 × BitVec 32 × BitVec 32 × BitVec 32 :=
  let a := a + b; let d := rotl (d ^^^ a) 16
  let c := c + d; let b := rotl (b ^^^ c) 12
  let a := a + b; let d := rotl (d ^^^ a) 8
  let c := c + d; let b := rotl (b ^^^ c) 7
  (a, b, c, d)
/-- A quarter turned back. -/
def unquarter (a b c d : BitVec 32) : BitVec 32 × BitVec 32 × BitVec 32 × BitVec 32 :=
  let b := (b >>> 7 ||| b <<< 25) ^^^ c
  let c := c - d
  let d := (d >>> 8 ||| d <<< 24) ^^^ a
  let a := a - b
  let b := (b >>> 12 ||| b <<< 20) ^^^ c
  let c := c - d
  let d := (d >>> 16 ||| d <<< 16) ^^^ a
  let a := a - b
  (a, b, c, d)
def word4 (a b c d : BitVec 8) : BitVec 32 := a.setWidth 32 ||| b.setWidth 32 <<< 8 ||| c.setWidth 32 <<< 16 ||| d.setWidth 32 <<< 24
def word4s (a b c d : BitVec 8) : BitVec 32 := a.setWidth 32 + b.setWidth 32 <<< 8 + c.setWidth 32 <<< 16 + d.setWidth 32 <<< 24
theorem word4s_eq (a b c d : BitVec 8) : word4s a b c d = word4 a b c d := by
  unfold word4s word4
  have z : ∀ (v : BitVec 8) (i : Nat), v.getLsbD i = true → i < 8 := fun v i h => by
    rcases Nat.lt_or_ge i 8 with hl | hl
    · exact hl
    · rw [BitVec.getLsbD_of_ge v i hl] at h; cases h
  have h : ∀ x y : BitVec 32, x &&& y = 0#32 → x + y = x ||| y := fun x y h => BitVec.add_eq_or_of_and_eq_zero x y h
  have e1 : a.setWidth 32 + b.setWidth 32 <<< 8 = a.setWidth 32 ||| b.setWidth 32 <<< 8 := h _ _ (by
    ext i hi
    simp
    intro h1 h2
    have := z _ _ h1
    omega)
  have e2 : (a.setWidth 32 ||| b.setWidth 32 <<< 8) + c.setWidth 32 <<< 16 = (a.setWidth 32 ||| b.setWidth 32 <<< 8) ||| c.setWidth 32 <<< 16 := h _ _ (by
    ext i hi
    simp
    intro h1 h2
    rcases h1 with h1 | ⟨_, h1⟩ <;> (have := z _ _ h1; omega))
  have e3 : ((a.setWidth 32 ||| b.setWidth 32 <<< 8) ||| c.setWidth 32 <<< 16) + d.setWidth 32 <<< 24 = ((a.setWidth 32 ||| b.setWidth 32 <<< 8) ||| c.setWidth 32 <<< 16) ||| d.setWidth 32 <<< 24 := h _ _ (by
    ext i hi
    simp
    intro h1 h2
    rcases h1 with (h1 | ⟨_, h1⟩) | ⟨_, h1⟩ <;> (have := z _ _ h1; omega))
  rw [e1, e2, e3]
def wordAt (l : List (BitVec 8)) (i : Nat) : BitVec 32 := word4 (at_ l i) (at_ l (i + 1)) (at_ l (i + 2)) (at_ l (i + 3))
def cols : List (Nat × Nat × Nat × Nat) := [(0, 4, 8, 12), (1, 5, 9, 13), (2, 6, 10, 14), (3, 7, 11, 15), (0, 5, 10, 15), (1, 6, 11, 12), (2, 7, 8, 13), (3, 4, 9, 14)]
def qstep (s : List (BitVec 32)) (q : Nat × Nat × Nat × Nat) : List (BitVec 32) :=
  let r := quarter (at_ s q.1) (at_ s q.2.1) (at_ s q.2.2.1) (at_ s q.2.2.2)
  (((s.set q.1 r.1).set q.2.1 r.2.1).set q.2.2.1 r.2.2.1).set q.2.2.2 r.2.2.2
theorem qstep_length (s : List (BitVec 32)) (q : Nat × Nat × Nat × Nat) : (qstep s q).length = s.length := by simp [qstep]
def roundTo (k : Nat) (s : List (BitVec 32)) : List (BitVec 32) := (cols.take k).foldl qstep s
theorem roundTo_succ (k : Nat) (s : List (BitVec 32)) (q) (h : cols[k]? = some q) : roundTo (k + 1) s = qstep (roundTo k s) q := by
  simp [roundTo, List.take_add_one, h]
theorem foldl_length (l : List (Nat × Nat × Nat × Nat)) : ∀ s : List (BitVec 32), (l.foldl qstep s).length = s.length := by
  induction l with
  | nil => intro s; rfl
  | cons q l ih => intro s; rw [List.foldl_cons, ih, qstep_length]
theorem roundTo_length (k : Nat) (s : List (BitVec 32)) : (roundTo k s).length = s.length := foldl_length _ _
def colCells : Array Value := ((cols.map fun q => [q.1, q.2.1, q.2.2.1, q.2.2.2]).flatten.map fun (n : Nat) => Value.int .i64 n).toArray
/-- The program's table of columns, as it lies in memory. -/
def ColsAt (w : World) : Prop := ∃ t fr, w.heap[0]? = some (.cells colCells t fr)
def zeros16 : Array Value := arr .u32 (List.replicate 16 (0 : BitVec 32))

def round (s : List (BitVec 32)) : List (BitVec 32) := roundTo 8 s
/-! State -/
def init16 : List (BitVec 32) := [0x61707865#32, 0x3320646e#32, 0x79622d32#32, 0x6b206574#32, 0#32, 0#32, 0#32, 0#32, 0#32, 0#32, 0#32, 0#32, 0#32, 0#32, 0#32, 0#32]
def stKey (key : List (BitVec 8)) (k : Nat) : List (BitVec 32) := (List.range k).foldl (fun s i => s.set (4 + i) (wordAt key (4 * i))) init16
def stNon (s : List (BitVec 32)) (nonce : List (BitVec 8)) (k : Nat) : List (BitVec 32) := (List.range k).foldl (fun s i => s.set (13 + i) (wordAt nonce (4 * i))) s
def state (key : List (BitVec 8)) (c : BitVec 32) (nonce : List (BitVec 8)) : List (BitVec 32) := stNon ((stKey key 8).set 12 c) nonce 3
theorem stKey_succ (key : List (BitVec 8)) (k : Nat) : stKey key (k + 1) = (stKey key k).set (4 + k) (wordAt key (4 * k)) := by
  simp [stKey, List.range_succ]
theorem stNon_succ (s : List (BitVec 32)) (nonce : List (BitVec 8)) (k : Nat) : stNon s nonce (k + 1) = (stNon s nonce k).set (13 + k) (wordAt nonce (4 * k)) := by
  simp [stNon, List.range_succ]
theorem stKey_length (key : List (BitVec 8)) (k : Nat) : (stKey key k).length = 16 := by
  induction k with
  | zero => rfl
  | succ k ih => rw [stKey_succ, List.length_set, ih]
theorem stNon_length (s : List (BitVec 32)) (nonce : List (BitVec 8)) (k : Nat) : (stNon s nonce k).length = s.length := by
  induction k with
  | zero => rfl
  | succ k ih => rw [stNon_succ, List.length_set, ih]
theorem state_length (key : List (BitVec 8)) (c : BitVec 32) (nonce : List (BitVec 8)) : (state key c nonce).length = 16 := by
  rw [state, stNon_length, List.length_set, stKey_length]
/-! Block -/
def set4 (o : List (BitVec 8)) (i : Nat) (x : BitVec 32) : List (BitVec 8) :=
  (((o.set (4 * i) (x.setWidth 8)).set (4 * i + 1) ((x >>> 8).setWidth 8)).set (4 * i + 2) ((x >>> 16).setWidth 8)).set (4 * i + 3) ((x >>> 24).setWidth 8)
def serTo (S F : List (BitVec 32)) (k : Nat) : List (BitVec 8) := (List.range k).foldl (fun o i => set4 o i (at_ S i + at_ F i)) (List.replicate 64 0#8)
def rounds (s : List (BitVec 32)) : Nat → List (BitVec 32)
  | 0 => s
  | k + 1 => round (rounds s k)
def block (key : List (BitVec 8)) (c : BitVec 32) (nonce : List (BitVec 8)) : List (BitVec 8) :=
  serTo (rounds (state key c nonce) 10) (state key c nonce) 16
theorem set4_length (o : List (BitVec 8)) (i : Nat) (x : BitVec 32) : (set4 o i x).length = o.length := by simp [set4]
theorem serTo_succ (S F : List (BitVec 32)) (k : Nat) : serTo S F (k + 1) = set4 (serTo S F k) k (at_ S k + at_ F k) := by simp [serTo, List.range_succ]
theorem serTo_length (S F : List (BitVec 32)) (k : Nat) : (serTo S F k).length = 64 := by
  induction k with
  | zero => rfl
  | succ k ih => rw [serTo_succ, set4_length, ih]
theorem rounds_length (s : List (BitVec 32)) (k : Nat) : (rounds s k).length = s.length := by
  induction k with
  | zero => rfl
  | succ k ih => rw [rounds, round, roundTo_length, ih]
theorem block_length (key : List (BitVec 8)) (c : BitVec 32) (nonce : List (BitVec 8)) : (block key c nonce).length = 64 := serTo_length _ _ _
theorem ColsAt.keep {w w' : World} {B : Nat} (h : ColsAt w) (hb : Go.RowKit.Below B w w') (hB : 0 < B) : ColsAt w' := by
  obtain ⟨t, fr, hg⟩ := h
  exact ⟨t, fr, (hb.block 0 hB).trans hg⟩
theorem ColsAt.lt {w : World} (h : ColsAt w) : 0 < w.heap.size := by
  obtain ⟨t, fr, hg⟩ := h
  exact (Array.getElem?_eq_some_iff.1 hg).1
theorem roundTo_zero (s : List (BitVec 32)) : roundTo 0 s = s := rfl
theorem stKey_zero (k : List (BitVec 8)) : stKey k 0 = init16 := rfl
theorem stNon_zero (s : List (BitVec 32)) (n : List (BitVec 8)) : stNon s n 0 = s := rfl
theorem serTo_zero (S F : List (BitVec 32)) : serTo S F 0 = List.replicate 64 0#8 := rfl
theorem rounds_zero (s : List (BitVec 32)) : rounds s 0 = s := rfl
theorem rounds_succ (s : List (BitVec 32)) (k : Nat) : rounds s (k + 1) = round (rounds s k) := rfl
attribute [irreducible] roundTo stKey stNon serTo rounds
end Go.Proofs.YtbfakdpnefhgkaaDoor
