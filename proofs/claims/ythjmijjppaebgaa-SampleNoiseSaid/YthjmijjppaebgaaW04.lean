/- Contracts of the reference's bytes: written, laid, Encode. -/
import Derived.Test.YthjmijjppaebgaaZ04
set_option linter.all false
set_option maxHeartbeats 2000000
set_option maxRecDepth 20000
namespace Go.Abs
open Go Go.Proofs

theorem refBits_v {e b : Int} (he : enc e) (hb : bitsF e = b) {H : AHeap} {K : CK} (h : K (.returned (.tuple #[iv b, iv 0])) H) : callS P (fnV 11) [iv e] H K := by
  subst hb
  exact refBits_t he h
theorem intK_eq {a v : Int} {K : Int → Prop} (hv : a = v) (hr : -9223372036854775808 ≤ v ∧ v ≤ 9223372036854775807) (hk : K v) : intK .i64 a K := by
  subst hv
  exact intK_in hr hk
theorem rngN {n i : Nat} (h : n ≤ i) (hi : i ≤ 1000000) : -9223372036854775808 ≤ (n : Int) ∧ (n : Int) ≤ 9223372036854775807 := by omega
def wrS (e : Int) (m : List (List Int)) (pl : Bool) : Nat → ByteArray
  | 0 => .empty
  | n + 1 => wrS e m pl n ++ bstr (putL e (at2 m (pc m.length (framesB m) pl n) (pf m.length (framesB m) pl n)))
theorem bstr_len (bs : List Int) : (bstr bs).size = bs.length := by simp [bstr, strV, ByteArray.size]
def encM (e : Int) (pl : Bool) (m : List (List Int)) (n : Nat) : List Int := ((List.range n).map fun i => putL e (at2 m (pc m.length (framesB m) pl i) (pf m.length (framesB m) pl i))).flatten
theorem encM_succ (e : Int) (pl : Bool) (m : List (List Int)) (n : Nat) : encM e pl m (n + 1) = encM e pl m n ++ putL e (at2 m (pc m.length (framesB m) pl n) (pf m.length (framesB m) pl n)) := by
  simp [encM, List.range_succ]
theorem encM_len (e : Int) (pl : Bool) (m : List (List Int)) : ∀ n, (encM e pl m n).length ≤ 4 * n
  | 0 => by simp [encM]
  | n + 1 => by
    have := encM_len e pl m n
    have h2 := putL_len (e := e) (l := at2 m (pc m.length (framesB m) pl n) (pf m.length (framesB m) pl n))
    rw [encM_succ, List.length_append]
    omega
def mapM (g : Int → Int) (b : List (List Int)) : List (List Int) := b.map fun r => r.map g
theorem at2_mapM {g : Int → Int} (h0 : g 0 = 0) (b : List (List Int)) (i c : Nat) : at2 (mapM g b) i c = g (at2 b i c) := by
  unfold at2 mapM
  simp only [List.getD_eq_getElem?_getD, List.getElem?_map]
  cases h : b[i]? with
  | none => simp [h0]
  | some r =>
    simp only [Option.map_some, Option.getD_some, List.getElem?_map]
    cases h2 : r[c]? with
    | none => simp [h0]
    | some x => simp
theorem levF0 (e : Int) : levF e 0 = 0 := by
  have hm := maxF_bd e
  have hr : rnd 0 (unitF e) = 0 := by
    unfold unitF
    split
    · decide
    · decide
  unfold levF
  split
  · rfl
  · split
    · rfl
    · rw [hr]; omega
theorem mapM_len (g : Int → Int) (b : List (List Int)) : (mapM g b).length = b.length := by simp [mapM]
theorem mapM_frames (g : Int → Int) (b : List (List Int)) : framesB (mapM g b) = framesB b := by
  cases b with
  | nil => rfl
  | cons r b => simp [framesB, mapM]
theorem encM_map (e : Int) (pl : Bool) (b : List (List Int)) (n : Nat) : encM e pl (mapM (levF e) b) n = encN e pl b n := by
  unfold encM encN
  rw [mapM_len, mapM_frames]
  congr 1
  refine List.map_congr_left fun i _ => ?_
  rw [at2_mapM (levF0 e)]
end Go.Abs
