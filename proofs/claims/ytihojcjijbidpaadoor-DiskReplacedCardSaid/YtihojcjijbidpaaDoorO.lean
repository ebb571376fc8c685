/- The order of paths, without the program. -/
import Derived.Test.YtihojcjijbidpaaDoorP2
import Derived.Lib.IndexBytes
import Derived.Lib.IndexLaws
import Derived.Sort.Walk0
import Derived.Sort.Statements
namespace Go.Proofs.YtihojcjijbidpaaDoor
open Go.RowKit Go.Shelf Go.Sort

def keyK (p : ByteArray) : List (List UInt8) := (splitL p).map (·.data.toList)
def joinK : List (List UInt8) → List UInt8
  | [] => []
  | [x] => x
  | x :: y :: l => x ++ 47 :: joinK (y :: l)

theorem cmpB_lt (a b : ByteArray) : cmpB a b < 0 ↔ a.data.toList < b.data.toList := by
  unfold cmpB
  rw [bytesLess_eq, ByteArray.toList_eq, ByteArray.toList_eq]
  by_cases h : a.data.toList < b.data.toList
  · simp [h]
  · simp only [h, decide_false, Bool.false_eq_true, if_false, iff_false]
    split <;> decide
theorem cmpB_zero (a b : ByteArray) : cmpB a b = 0 ↔ a.data.toList = b.data.toList := by
  unfold cmpB
  rw [bytesLess_eq, ByteArray.toList_eq, ByteArray.toList_eq]
  by_cases h : a.data.toList < b.data.toList
  · simp only [h, decide_true, if_true]
    constructor
    · intro q; cases q
    · intro q; rw [q] at h; exact absurd h (List.lt_irrefl _)
  · simp only [h, decide_false, Bool.false_eq_true, if_false]
    by_cases e : a.data.toList = b.data.toList
    · simp [e]
    · simp [e]; exact fun q => e (by rw [q])
theorem cmpL_lt : ∀ xs ys : List ByteArray, cmpL xs ys < 0 ↔ xs.map (·.data.toList) < ys.map (·.data.toList)
  | [], [] => by simp [cmpL]
  | [], y :: ys => by simp [cmpL]
  | x :: xs, [] => by simp [cmpL]
  | x :: xs, y :: ys => by
    simp only [List.map_cons, List.cons_lt_cons_iff]
    unfold cmpL
    by_cases h : cmpB x y = 0
    · rw [if_pos h, cmpL_lt xs ys]
      have e := (cmpB_zero x y).1 h
      simp [e, List.lt_irrefl]
    · rw [if_neg h, cmpB_lt]
      have e := mt (cmpB_zero x y).2 h
      simp [e]
theorem lessB_iff (a b : ByteArray) : lessB a b = true ↔ keyK a < keyK b := by
  unfold lessB keyK
  rw [decide_eq_true_eq]
  exact cmpL_lt _ _

theorem splitK_ne (k : Nat) (l : List UInt8) : Lib.splitK [47] 0 k l ≠ [] := by
  cases k with
  | zero => simp [Lib.splitK]
  | succ k => unfold Lib.splitK; split <;> simp
theorem joinK_splitK : ∀ (k : Nat) (l : List UInt8), joinK (Lib.splitK [47] 0 k l) = l
  | 0, l => rfl
  | k + 1, l => by
    unfold Lib.splitK
    split
    · rfl
    · rename_i h
      have hr := Lib.index_ge l [47]
      have hi : Lib.index l [47] = ((Lib.index l [47]).toNat : Int) := by
        have : Lib.index l [47] ≠ -1 := by simpa using h
        omega
      generalize (Lib.index l [47]).toNat = i at *
      rw [Lib.index_one] at hi
      have hc := (Lib.indexByte_some hi).1
      have ih := joinK_splitK k (l.drop (i + 1))
      simp only [Nat.add_zero, List.length_singleton]
      generalize hq : Lib.splitK [47] 0 k (l.drop (i + 1)) = q at *
      cases q with
      | nil => exact absurd hq (splitK_ne _ _)
      | cons y q =>
        show l.take i ++ 47 :: joinK (y :: q) = l
        rw [ih]
        have hlt : i < l.length := (List.getElem?_eq_some_iff.1 hc).1
        have hg : l[i] = 47 := (List.getElem?_eq_some_iff.1 hc).2
        rw [← hg, ← List.drop_eq_getElem_cons hlt, List.take_append_drop]
theorem keyK_join (p : ByteArray) : joinK (keyK p) = p.data.toList := by
  unfold keyK splitL
  rw [Lib.splitB_data]
  exact joinK_splitK _ _
theorem keyK_inj {a b : ByteArray} (h : keyK a = keyK b) : a = b := by
  have := (keyK_join a).symm.trans ((congrArg joinK h).trans (keyK_join b))
  cases a; cases b
  simp at this
  rw [this]

theorem lessB_irrefl (a : ByteArray) : lessB a a = false := by
  cases h : lessB a a with
  | false => rfl
  | true => exact absurd ((lessB_iff a a).1 h) (List.lt_irrefl _)
theorem lessB_trans {a b c : ByteArray} (h : lessB a b = true) (h2 : lessB b c = true) : lessB a c = true :=
  (lessB_iff a c).2 (List.lt_trans ((lessB_iff a b).1 h) ((lessB_iff b c).1 h2))
theorem lessB_not {a b : ByteArray} (h : lessB a b = false) : keyK b ≤ keyK a := List.not_lt.1 (fun q => by rw [(lessB_iff a b).2 q] at h; cases h)
theorem lessB_total {a b : ByteArray} (h : lessB a b = false) (h2 : lessB b a = false) : a = b := keyK_inj (List.le_antisymm (lessB_not h2) (lessB_not h))
theorem lessB_asymm {a b : ByteArray} (h : lessB a b = true) : lessB b a = false := by
  cases q : lessB b a with
  | false => rfl
  | true => exact absurd (lessB_trans h q) (by rw [lessB_irrefl]; simp)
theorem lessC_neg (a b : ByteArray) : lessC a b < 0 ↔ lessB a b = true := by
  unfold lessC
  split
  · simp [*]
  · split <;> simp [*]

/-- Lists that rise are told by what is in them. -/
theorem rise_unique {l l' : List ByteArray} (h : l.Pairwise fun a b => lessB a b = true) (h' : l'.Pairwise fun a b => lessB a b = true) (hp : l.Perm l') : l = l' :=
  List.Perm.eq_of_pairwise (le := fun a b => lessB a b = true) (fun a b _ _ q q' => absurd (lessB_trans q q') (by rw [lessB_irrefl]; simp)) h h' hp
end Go.Proofs.YtihojcjijbidpaaDoor
