/-
  What Grow writes agrees with the log's bytes: the plain law.
-/
import Derived.Test.YtgdedimoblpgbaaLogP
namespace Go.Proofs.Ytgdedimoblpgbaa.Disk
set_option linter.unusedVariables false

theorem sect_get (r : ByteArray) (k j : Nat) (hj : j < 128) : (sect r k).data[j]? = r.data[k * 128 + j]? := by
  unfold sect
  rw [ByteArray.data_extract]
  rw [Array.getElem?_extract]
  by_cases q : k * 128 + j < r.data.size
  · rw [if_pos (by omega)]
  · rw [if_neg (by omega), Array.getElem?_eq_none (by omega)]
theorem padV_get (s : ByteArray) (j : Nat) (h : j < s.size) : (padV s).data[j]? = s.data[j]? := by
  unfold padV
  rw [ByteArray.data_append, Array.getElem?_append_left (by exact h)]
theorem app_get (a b : ByteArray) (j : Nat) (h : j < a.size) : (a ++ b).data[j]? = a.data[j]? := by
  rw [ByteArray.data_append, Array.getElem?_append_left (by exact h)]
theorem tail_get (t : ByteArray) (f j : Nat) (h : f + j < t.size) : (t.extract f t.size).data[j]? = t.data[f + j]? := by
  rw [ByteArray.data_extract, Array.getElem?_extract]
  have : t.data.size = t.size := rfl
  rw [if_pos (by omega)]
/-- each sector of Grow's agrees with the bytes that stand -/
theorem grow_agr (first : Nat) (t s : ByteArray) (k : Nat) : Agr first t (first + t.size / 128 + k) (sect (padV (t.extract (t.size / 128 * 128) t.size ++ s)) k) := by
  intro i j hi hj hlt
  obtain rfl : i = t.size / 128 + k := by omega
  rw [sect_get _ _ _ hj]
  have hk : (t.extract (t.size / 128 * 128) t.size).size = t.size - t.size / 128 * 128 := by rw [ByteArray.size_extract]; omega
  have hb : k * 128 + j < (t.extract (t.size / 128 * 128) t.size).size := by rw [hk]; omega
  rw [padV_get _ _ (by rw [ByteArray.size_append]; omega), app_get _ _ _ hb, tail_get _ _ _ (by omega)]
  congr 1
  omega
theorem growV_safe {first most : Nat} {t s : ByteArray} {d : Dk} (h : Safe first t d) : Safe first t (growV d first most t s).1 := by
  unfold growV
  split
  · exact h
  · split
    · exact h
    · exact h.putk _ _ _ (fun k _ => grow_agr first t s k) _ (Nat.le_refl _)
end Go.Proofs.Ytgdedimoblpgbaa.Disk
