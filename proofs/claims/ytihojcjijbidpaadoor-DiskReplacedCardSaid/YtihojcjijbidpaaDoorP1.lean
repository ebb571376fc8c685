/- path: the walks of Split, slices.Compare, Less, Check. -/
import Derived.Test.YtihojcjijbidpaaDoorP0
import Derived.Lib.SplitLaws
import Derived.Lib.Split
import Derived.Shelf.SlicesE.IndexFunc
namespace Go.Proofs.YtihojcjijbidpaaDoor
open Go.RowKit Go.Shelf

/-- The library's one variable that strings.Split reads is an int. -/
def Amb (w : World) : Prop := ∃ m : Int, w.cell? ⟨0, 0, none⟩ = some (.int .i64 m)
def splitL (p : ByteArray) : List ByteArray := Lib.splitB ⟨#[47]⟩ 0 (Lib.countB p ⟨#[47]⟩) p
theorem splitL_length (p : ByteArray) : (splitL p).length = Lib.countB p ⟨#[47]⟩ + 1 := Lib.splitB_all ⟨#[47]⟩ (by decide) 0 _ p rfl
def strBlock (l : List ByteArray) : Obj := .cells (l.map Value.string).toArray 9
def SplitSaid : Prop := ∀ (s sep : ByteArray) (m : Int) (w : World) (hs : s.size < 4294967281) (hm : w.cell? ⟨0, 0, none⟩ = some (.int .i64 m)) (h1 : 1 ≤ sep.size),
    Calls Tryd.prog 58 #[.string s, .string sep] w fun e w' =>
      e = .returned (.slice (some ⟨w.heap.size, 0, none⟩) (Lib.countB s sep + 1) (Lib.countB s sep + 1)) ∧ w' = w.alloc (.cells ((Lib.splitB sep 0 (Lib.countB s sep) s).map Value.string).toArray 9)

theorem Split_calls (H : SplitSaid) (p : ByteArray) (w : World) (hA : Amb w) (h0 : p.toList.isEmpty = false) (hs : p.size ≤ 1000000) :
    Calls Tryd.prog 48 #[.string p] w fun e w' => e = .returned (.slice (some ⟨w.heap.size, 0, none⟩) (splitL p).length (splitL p).length) ∧ w' = w.alloc (strBlock (splitL p)) := by
  obtain ⟨m, hm⟩ := hA
  have HS := H p ⟨#[47]⟩ m w (by omega) hm (by decide)
  rw [← splitL_length p] at HS
  change Calls _ _ _ _ (fun e w' => _ ∧ w' = w.alloc (strBlock (splitL p))) at HS
  generalize splitL p = l at *
  clear H hm
  go_enter Tryd.func48, Tryd.ntmps48
  go_wp2_with (go_at_call 58; refine HS.mono ?_; rintro e w' ⟨rfl, rfl⟩)
  go_ret
  exact ⟨rfl, rfl⟩

theorem Split_empty (w : World) : Calls Tryd.prog 48 #[.string ⟨#[]⟩] w fun e w' => e = .returned (.slice none 0 0) ∧ w = w' := by
  go_enter Tryd.func48, Tryd.ntmps48
  go_wp2
  go_ret
  exact ⟨rfl, rfl⟩

def cmpL : List ByteArray → List ByteArray → Int
  | [], [] => 0
  | [], _ :: _ => -1
  | _ :: _, [] => 1
  | x :: xs, y :: ys => if cmpB x y = 0 then cmpL xs ys else cmpB x y

theorem cmpB_range (a b : ByteArray) : cmpB a b = -1 ∨ cmpB a b = 0 ∨ cmpB a b = 1 := by
  unfold cmpB; split
  · exact .inl rfl
  · split
    · exact .inr (.inr rfl)
    · exact .inr (.inl rfl)

theorem cmpL_step {l1 l2 : List ByteArray} {k : Nat} (h1 : k < l1.length) (h2 : k < l2.length) (h : cmpB l1[k] l2[k] = 0) : cmpL (l1.drop k) (l2.drop k) = cmpL (l1.drop (k + 1)) (l2.drop (k + 1)) := by
  rw [List.drop_eq_getElem_cons h1, List.drop_eq_getElem_cons h2]
  simp [cmpL, h]
theorem cmpL_stop {l1 l2 : List ByteArray} {k : Nat} (h1 : k < l1.length) (h2 : k < l2.length) (h : ¬ cmpB l1[k] l2[k] = 0) : cmpL (l1.drop k) (l2.drop k) = cmpB l1[k] l2[k] := by
  rw [List.drop_eq_getElem_cons h1, List.drop_eq_getElem_cons h2]
  simp [cmpL, h]
theorem cmpL_long {l1 l2 : List ByteArray} {k : Nat} (h1 : k < l1.length) (h2 : k = l2.length) : cmpL (l1.drop k) (l2.drop k) = 1 := by
  rw [List.drop_eq_getElem_cons h1, List.drop_of_length_le (l := l2) (by omega)]
  rfl
theorem cmpL_end {l1 l2 : List ByteArray} {k : Nat} (h1 : k = l1.length) (h2 : k ≤ l2.length) : cmpL (l1.drop k) (l2.drop k) = if (k : Int) < l2.length then -1 else 0 := by
  rw [List.drop_of_length_le (l := l1) (by omega)]
  by_cases h : k < l2.length
  · rw [List.drop_eq_getElem_cons h, if_pos (by omega)]; rfl
  · rw [List.drop_of_length_le (l := l2) (by omega), if_neg (by omega)]; rfl

set_option maxHeartbeats 800000 in
theorem Compare_calls (l1 l2 : List ByteArray) (b1 b2 c1 c2 : Nat) (w : World) (hl1 : l1.length ≤ 1000000) (hl2 : l2.length ≤ 1000000)
    (h1 : ∀ i (h : i < l1.length), w.cell? ⟨b1, i, none⟩ = some (.string l1[i])) (h2 : ∀ i (h : i < l2.length), w.cell? ⟨b2, i, none⟩ = some (.string l2[i])) :
    Calls Tryd.prog 57 #[.slice (some ⟨b1, 0, none⟩) l1.length c1, .slice (some ⟨b2, 0, none⟩) l2.length c2] w fun e w' => e = .returned (.int .i64 (cmpL l1 l2)) ∧ w = w' := by
  have H1 := Lib.hid h1; clear h1
  have H2 := Lib.hid h2; clear h2
  obtain ⟨n1, hn1⟩ : ∃ n1, n1 = l1.length := ⟨_, rfl⟩
  obtain ⟨n2, hn2⟩ : ∃ n2, n2 = l2.length := ⟨_, rfl⟩
  rw [← hn1] at hl1 ⊢
  rw [← hn2] at hl2 ⊢
  have N1 := Lib.hid hn1; clear hn1
  have N2 := Lib.hid hn2; clear hn2
  go_enter Tryd.func57, Tryd.ntmps57
  go_wp2
  go_loop [5, 6, 7, 8, 11] (fun _ _ _ _ t => ∃ k : Nat, k ≤ n1 ∧ k ≤ n2 ∧ t = .int .i64 k ∧ Hid (cmpL l1 l2 = cmpL (l1.drop k) (l2.drop k))) (fun _ _ _ _ t => n1 - (intOf t).toNat)
  case atStart => exact ⟨0, Nat.zero_le _, Nat.zero_le _, rfl, rfl⟩
  case round =>
    obtain ⟨k, hk1, hk2, rfl, HC⟩ := hrel
    by_cases q1 : k < n1
    · have e1 : k < l1.length := by rw [← N1.out]; exact q1
      have g1 := H1.out k e1
      by_cases q2 : k < n2
      · have e2 : k < l2.length := by rw [← N2.out]; exact q2
        have g2 := H2.out k e2
        have HS := Lib.hid (cmpL_step e1 e2)
        have HT := Lib.hid (cmpL_stop e1 e2)
        have HB := cmpCompare_calls l1[k] l2[k] w
        have hr := cmpB_range l1[k] l2[k]
        generalize cmpB l1[k] l2[k] = c at *
        by_cases hc : c = 0
        · subst hc
          clear hr
          go_wp2_with (go_at_call 71; refine HB.mono ?_; rintro e w' ⟨rfl, rfl⟩)
          go_round
          case rel => exact ⟨k + 1, by omega, by omega, by go_num, by have := HC.out; rw [this]; exact HS.out trivial⟩
          case measure => simp [intOf]; omega
        · have hc' : (c == 0) = false := by simpa using hc
          have hc'' : (c != 0) = true := by simpa using hc
          have hx : cmpL l1 l2 = c := by rw [HC.out]; exact HT.out hc
          have HX := Lib.hid hx; clear hx hr
          go_wp2_with (go_at_call 71; refine HB.mono ?_; rintro e w' ⟨rfl, rfl⟩)
          go_ret
          exact ⟨by rw [HX.out]; rfl, rfl⟩
      · have hx : cmpL l1 l2 = 1 := by rw [HC.out]; exact cmpL_long e1 (by rw [← N2.out]; omega)
        have HX := Lib.hid hx; clear hx
        go_wp2
        go_ret
        exact ⟨by rw [HX.out]; rfl, rfl⟩
    · have hx : cmpL l1 l2 = if (n1 : Int) < n2 then -1 else 0 := by
        rw [HC.out, cmpL_end (by rw [← N1.out]; omega) (by rw [← N2.out]; omega), ← N2.out, show k = n1 by omega]
      have HX := Lib.hid hx; clear hx
      by_cases q2 : n1 < n2
      · go_wp2
        go_ret
        exact ⟨by rw [HX.out, if_pos (by omega)]; rfl, rfl⟩
      · go_wp2
        go_ret
        exact ⟨by rw [HX.out, if_neg (by omega)]; rfl, rfl⟩
end Go.Proofs.YtihojcjijbidpaaDoor
