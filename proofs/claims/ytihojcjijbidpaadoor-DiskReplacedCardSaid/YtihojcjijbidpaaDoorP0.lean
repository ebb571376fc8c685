/- path: the walks of Name, cut, Parent, Split and of what compares strings. -/
import Derived.Test.YtihojcjijbidpaaDoorProg
import Derived.Test.YtihojcjijbidpaaDoorK
import Derived.Shelf.LaysM
import Derived.Shelf.Strings.LastIndexAll
import Derived.Outline
import Derived.WalkLawsBesides
import Derived.WalkSpells
import Derived.Deep.QuietTactic
import Derived.BigQuiet
import Derived.BigGuardPart
import Derived.Deep.RegionWith
import Derived.Deep.DeepFit
namespace Go.Proofs.YtihojcjijbidpaaDoor
open Go.RowKit

def lastSlash (p : ByteArray) : Int := Lib.lastIndex p.data.toList [47]
def parentB (p : ByteArray) : ByteArray := p.extract 0 (max (lastSlash p) 0).toNat
def LastIndexSaid : Prop := ∀ (s sub : ByteArray) (hs : s.size < 4611686018427387904) (w : World),
    Calls Tryd.prog 60 #[.string s, .string sub] w fun e w' => e = .returned (.int .i64 (Lib.lastIndex s.data.toList sub.data.toList)) ∧ w' = w

set_option maxHeartbeats 400000 in
theorem pcut_calls (H : LastIndexSaid)
    (p : ByteArray) (w : World) (hs : p.size ≤ 1000000) (h1 : -1 ≤ lastSlash p) (h2 : lastSlash p < p.size) : Calls Tryd.prog 52 #[.string p] w fun e w' => e = .returned (.tuple #[.string (parentB p), .string (p.extract (lastSlash p + 1).toNat p.size)]) ∧ ∃ n, w' = w.drewN n := by
  have HL := H p ⟨#[47]⟩ (by omega) w
  have e1 : Lib.lastIndex p.data.toList [47] = lastSlash p := rfl
  simp only [e1] at HL
  clear H e1
  unfold parentB
  generalize lastSlash p = i at *
  by_cases hi : 0 ≤ i
  · obtain ⟨n, rfl⟩ : ∃ n : Nat, i = n := ⟨i.toNat, by omega⟩
    have em : max (n : Int) 0 = n := by omega
    have en : ((n : Int) + 1).toNat = n + 1 := by omega
    rw [em, en, Int.toNat_natCast]
    clear em en
    have q1 : (n : Int) + 1 ≤ p.size := by omega
    have q2 : IntKind.i64.wrap ((n : Int) + 1) = n + 1 := IntWalk.i64_in _ (by omega)
    go_enter Tryd.func52, Tryd.ntmps52
    go_wp2_with (go_at_call 60; refine HL.mono ?_; rintro e w' ⟨rfl, rfl⟩)
    go_quiet (fail)
    go_wp2
    go_ret2
    exact ⟨rfl, _, rfl⟩
  · obtain rfl : i = -1 := by omega
    have q1 : IntKind.i64.wrap (-1 + 1) = 0 := by decide
    have ex : p.extract (-1 + 1 : Int).toNat p.size = p := by simp
    rw [ex]
    clear ex
    go_enter Tryd.func52, Tryd.ntmps52
    go_wp2_with (go_at_call 60; refine HL.mono ?_; rintro e w' ⟨rfl, rfl⟩)
    go_quiet (fail)
    go_wp2
    go_ret2
    exact ⟨rfl, _, rfl⟩

theorem Parent_calls (H : LastIndexSaid)
    (p : ByteArray) (w : World) (hs : p.size ≤ 1000000) (h1 : -1 ≤ lastSlash p) (h2 : lastSlash p < p.size) : Calls Tryd.prog 42 #[.string p] w fun e w' => e = .returned (.string (parentB p)) ∧ ∃ n, w' = w.drewN n := by
  have HL := pcut_calls H p w hs h1 h2
  clear H
  go_enter Tryd.func42, Tryd.ntmps42
  go_wp2_with (go_at_call 52; refine HL.mono ?_; rintro e w' ⟨rfl, n, rfl⟩)
  go_ret
  exact ⟨rfl, _, rfl⟩

def cmpB (a b : ByteArray) : Int := if Op.bytesLess a.toList b.toList then -1 else if (!(a.toList == b.toList)) then 1 else 0
theorem cmpCompare_calls (a b : ByteArray) (w : World) : Calls Tryd.prog 71 #[.string a, .string b] w fun e w' => e = .returned (.int .i64 (cmpB a b)) ∧ w = w' := by
  go_enter Tryd.func71, Tryd.ntmps71
  go_wp2
  all_goals
    go_ret
    exact ⟨by simp [cmpB, *], rfl⟩

def nameByte (c : UInt8) : Bool := !((c.toNat : Int) == 47 || decide ((c.toNat : Int) ≤ 32) || decide (126 < (c.toNat : Int)))
def nameB (s : ByteArray) : Bool := !(s.toList.isEmpty || decide (32 < (s.size : Int)) || s.toList == [46] || s.toList == [46, 46]) && s.data.toList.all nameByte

theorem name_all {s : ByteArray} (h : nameB s = false) (h0 : s.toList.isEmpty = false) (h1 : ¬ 32 < s.size) (h2 : (s.toList == [46]) = false) (h3 : (s.toList == [46, 46]) = false) : s.data.toList.all nameByte = false := by
  have : ¬ (32 : Int) < s.size := by omega
  simp [nameB, h0, h2, h3, this] at h
  simpa using h

set_option maxHeartbeats 800000 in
theorem Name_calls (s : ByteArray) (w : World) (hs : s.size ≤ 1000000) : Calls Tryd.prog 51 #[.string s] w fun e w' => e = .returned (.bool (nameB s)) ∧ w = w' := by
  by_cases h0 : s.toList.isEmpty = true
  · go_enter Tryd.func51, Tryd.ntmps51
    go_wp2
    go_ret
    exact ⟨by simp [nameB, h0], rfl⟩
  · have hz : s.toList.isEmpty = false := by simpa using h0
    clear h0
    by_cases h1 : 32 < s.size
    · have hx : nameB s = false := by simp [nameB]; omega
      have HX := Lib.hid hx; clear hx
      have h1' : decide (32 < (s.size : Int)) = true := by simp; omega
      go_enter Tryd.func51, Tryd.ntmps51
      go_wp2
      go_ret
      exact ⟨by rw [HX.out]; rfl, rfl⟩
    · have h1' : decide (32 < (s.size : Int)) = false := by simp; omega
      by_cases h2 : s.toList = [46]
      · have hx : nameB s = false := by simp [nameB, h2]
        have HX := Lib.hid hx; clear hx
        have H2 := Lib.hid h2
        have h2' : (s.toList == [46]) = true := by simpa using h2
        clear h2
        go_enter Tryd.func51, Tryd.ntmps51
        go_wp2
        go_ret
        exact ⟨by rw [HX.out]; rfl, rfl⟩
      · have h2' : (s.toList == [46]) = false := by simpa using h2
        by_cases h3 : s.toList = [46, 46]
        · have hx : nameB s = false := by simp [nameB, h3]
          have HX := Lib.hid hx; clear hx
          have h3' : (s.toList == [46, 46]) = true := by simpa using h3
          clear h3
          go_enter Tryd.func51, Tryd.ntmps51
          go_wp2
          go_ret
          exact ⟨by rw [HX.out]; rfl, rfl⟩
        · have h3' : (s.toList == [46, 46]) = false := by simpa using h3
          have hx : nameB s = s.data.toList.all nameByte := by
            have : ¬ (32 : Int) < s.size := by omega
            simp [nameB, hz, h2', h3', this]
          have HX := Lib.hid hx; clear hx h3
          go_enter Tryd.func51, Tryd.ntmps51
          go_wp2
          go_loop [3, 4, 22] (fun _ _ t => ∃ k : Nat, k ≤ s.size ∧ t = .int .i64 k ∧ Hid (∀ j (h : j < s.size), j < k → nameByte s[j] = true)) (fun _ _ t => s.size - (intOf t).toNat)
          case atStart => exact ⟨0, Nat.zero_le _, rfl, fun j _ h => absurd h (Nat.not_lt_zero _)⟩
          case round =>
            obtain ⟨k, hk, rfl, HJ⟩ := hrel
            by_cases hlt : k < s.size
            · by_cases hb : nameByte s[k] = true
              · have hb' := hb
                simp only [nameByte, Bool.not_eq_true', Bool.or_eq_false_iff] at hb'
                obtain ⟨⟨b1, b2⟩, b3⟩ := hb'
                have HB := Lib.hid hb; clear hb
                go_wp2
                go_round
                case rel =>
                  refine ⟨k + 1, by omega, by go_num, fun j hj hjk => ?_⟩
                  by_cases e : j = k
                  · subst e; exact HB.out
                  · exact HJ.out j hj (by omega)
                case measure => simp [intOf]; omega
              · have hx : s.data.toList.all nameByte = false := by
                  rw [List.all_eq_false]
                  exact ⟨s[k], by simp [ByteArray.getElem_eq_getElem_data], hb⟩
                have HX2 := Lib.hid hx; clear hx
                have hb0 : nameByte s[k] = false := by simpa using hb
                simp only [nameByte] at hb0
                clear hb
                by_cases b1 : ((s[k].toNat : Int) == 47) = true
                · go_wp2
                  go_ret
                  exact ⟨by rw [HX.out, HX2.out]; rfl, rfl⟩
                · have b1' : ((s[k].toNat : Int) == 47) = false := by simpa using b1
                  clear b1
                  by_cases b2 : decide ((s[k].toNat : Int) ≤ 32) = true
                  · clear hb0
                    go_wp2
                    go_ret
                    exact ⟨by rw [HX.out, HX2.out]; rfl, rfl⟩
                  · have b2' : decide ((s[k].toNat : Int) ≤ 32) = false := by simpa using b2
                    clear b2
                    have b3 : decide (126 < (s[k].toNat : Int)) = true := by rw [b1', b2'] at hb0; simpa using hb0
                    clear hb0
                    go_wp2
                    go_ret
                    exact ⟨by rw [HX.out, HX2.out]; rfl, rfl⟩
            · have hx : s.data.toList.all nameByte = true := by
                rw [List.all_eq_true]
                intro x hx
                obtain ⟨j, hj, rfl⟩ := List.mem_iff_getElem.1 hx
                have hj' : j < s.size := by simpa using hj
                have := HJ.out j hj' (by omega)
                simpa [ByteArray.getElem_eq_getElem_data] using this
              have HX2 := Lib.hid hx; clear hx
              go_wp2
              go_ret
              exact ⟨by rw [HX.out, HX2.out]; rfl, rfl⟩
end Go.Proofs.YtihojcjijbidpaaDoor
