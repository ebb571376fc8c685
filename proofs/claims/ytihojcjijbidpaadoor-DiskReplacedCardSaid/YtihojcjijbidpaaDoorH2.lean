/- The walk of DiskReplaced. -/
import Derived.Test.YtihojcjijbidpaaDoorH1
namespace Go.Proofs.YtihojcjijbidpaaDoor
open Go.RowKit Go.Shelf Go.Sort

theorem arg_bytes {w0 w : World} {v : Value} {l : List UInt8} (h : BytesAt w0 (fun _ => False) v l) (hb : Below w0.heap.size w0 w) {M : Nat → Prop} (hM : ∀ k, M k → w0.heap.size ≤ k) : BytesAt w M v l := by
  rcases h with h | ⟨b, o, c, rfl, h1, h2, _, h4⟩
  · exact .inl h
  · exact .inr ⟨b, o, c, rfl, h1, Nat.lt_of_lt_of_le h2 hb.size, fun q => by have := hM b q; omega, fun i hi => (hb.cell (p := ⟨b, o + i, none⟩) h2).trans (h4 i hi)⟩
theorem bytes_string {w : World} {M : Nat → Prop} {v : Value} {l : List UInt8} (h : BytesAt w M v l) : (convert 22 9 v).run Tryd.prog w = .ok (.string ⟨l.toArray⟩) w := by
  rcases h with ⟨a, c, rfl, rfl, hac⟩ | ⟨b, o, c, rfl, _, _, _, h4⟩
  · cases a with
    | some a => exact run_convert_bytes_back (P := Tryd.prog) w 22 9 5 a c [] Tryd.underlying22 (by kernel_rfl) Tryd.underlying9 (fun j hj => by simp at hj)
    | none =>
      obtain rfl := hac rfl
      rw [run_convert_bytes_string w 22 9 5 none 0 0 Tryd.underlying22 (by kernel_rfl) Tryd.underlying9]
      rfl
  · refine run_convert_bytes_back (P := Tryd.prog) w 22 9 5 ⟨b, o, none⟩ c l Tryd.underlying22 (by kernel_rfl) Tryd.underlying9 (fun j hj => ?_)
    have ha : (⟨b, o, none⟩ : Addr).add j = ⟨b, o + j, none⟩ := by unfold Addr.add; split <;> simp_all
    rw [ha]
    exact h4 j hj
theorem bytes_ne {a b : ByteArray} (h : ¬ a = b) : (a.toList == b.toList) = false := by
  rw [beq_eq_false_iff_ne, ByteArray.toList_eq, ByteArray.toList_eq]
  intro e
  obtain ⟨⟨a⟩⟩ := a; obtain ⟨⟨b⟩⟩ := b
  simp at e
  exact h (by rw [e])
def RunsE (w0 w : World) (bd : Nat) (old fresh : List UInt8) : Prop := ∃ D n b, Runs w0 w bd D n b ∧ n ≤ 100 ∧ b ≤ 1000 ∧ Either old fresh D
def Wrote (w0 w : World) (bd : Nat) (D8 : PD) : Prop := ∃ b, b ≤ 1000 ∧ Runs w0 w bd D8 8 b

theorem b8_of {x : Int} (h0 : 0 ≤ x) (h1 : x ≤ 255) : b8 (UInt8.ofNat x.toNat) = .int .u8 x := by
  unfold b8
  congr 1
  simp
  omega

set_option maxHeartbeats 8000000 in
set_option maxRecDepth 10000 in
theorem DiskReplaced_go (w : World) (hA : Amb w) (a0 a1 : Option Addr) (c0 c1 : Nat) (old fresh : List UInt8) (x0 x1 x2 : Int) (hx0 : 0 ≤ x0) (hx0' : x0 ≤ 255) (hx1 : 0 ≤ x1) (hx1' : x1 ≤ 255) (hx2 : 0 ≤ x2) (hx2' : x2 ≤ 255)
    (h0 : BytesAt w (fun _ => False) (.slice a0 old.length c0) old) (h1 : BytesAt w (fun _ => False) (.slice a1 fresh.length c1) fresh) (hl0 : old.length ≤ 500) (hl1 : fresh.length ≤ 500) :
    Calls Tryd.prog 3 #[.slice a0 old.length c0, .slice a1 fresh.length c1, .agg #[.int .u8 x0, .int .u8 x1, .int .u8 x2]] w fun e w' => e = .returned (.bool true) ∧ Below w.heap.size w w' := by
  obtain ⟨W1, hW1⟩ : ∃ W1, W1 = w.alloc (.cells #[.int .u8 x0, .int .u8 x1, .int .u8 x2] 23) := ⟨_, rfl⟩
  have hb1 : Below w.heap.size w W1 := by rw [hW1]; exact (Below.refl _ _).alloc (Nat.le_refl _) _
  have c0' : W1.cell? ⟨w.heap.size, 0, none⟩ = some (.int .u8 x0) := by rw [hW1, World.cell?_alloc_new]; rfl
  have c1' : W1.cell? ⟨w.heap.size, 1, none⟩ = some (.int .u8 x1) := by rw [hW1, World.cell?_alloc_new]; rfl
  have c2' : W1.cell? ⟨w.heap.size, 2, none⟩ = some (.int .u8 x2) := by rw [hW1, World.cell?_alloc_new]; rfl
  have l1 : w.heap.size < W1.heap.size := by rw [hW1]; simp
  have hN := New_run 10000 W1
  have E0 := Lib.hid (either_end hl0 hl1 4 (x0 % 8) (x0 % 2 == 1))
  have hI := fail_is old (k := x0 % 8) (by omega) (x0 % 2 == 1)
  have HI := Lib.hid hI
  have V0 := Lib.hid h0
  have V1 := Lib.hid h1
  have HA := Lib.hid (hA.below hb1)
  have HB1 := Lib.hid hb1
  have HW1 := Lib.hid hW1
  have C0 := Lib.hid c0'
  have C1 := Lib.hid c1'
  have C2 := Lib.hid c2'
  have L1 := Lib.hid l1
  have L0 := Lib.hid hl0
  have LF := Lib.hid hl1
  have Q2 := Lib.hid (dr2_is hl0)
  obtain ⟨n0, hn0⟩ : ∃ n0, n0 = old.length := ⟨_, rfl⟩
  obtain ⟨n1, hn1⟩ : ∃ n1, n1 = fresh.length := ⟨_, rfl⟩
  rw [← hn0, ← hn1]
  rw [← hn0] at hl0
  rw [← hn1] at hl1
  have N0 := Lib.hid hn0
  have N1 := Lib.hid hn1
  clear hn0 hn1 h0 h1 hA hb1 hW1 c0' c1' c2' l1 hI
  go_enter Tryd.func3, Tryd.ntmps3
  go_wp2_with fail
  rw [← HW1.out]
  refine hN.mono ?_
  rintro e w1 ⟨bd, rfl, hR⟩
  clear hN
  have HC := Create_run HA.out hR (by omega) (by omega) ⟨#[97]⟩ (by decide)
  rw [show putR (newD 10000) ⟨#[97]⟩ false = (dr1, 0) from dr1_is] at HC
  clear hR
  go_wp2_with fail
  refine HC.mono ?_
  rintro e w2 ⟨rfl, hR⟩
  clear HC
  have HAp := Append_run2 HA.out hR (Below.refl _ _) (by omega) (by omega) ⟨#[97]⟩ (by decide) (.slice a0 n0 c0) old (fun M h1 h2 => by rw [N0.out]; exact arg_bytes (V0.out) (HB1.out.trans (hR.wBelow.mono HB1.out.size)) (fun k q => Nat.le_trans (Nat.le_of_lt L1.out) (h1 k q)))
  rw [show appendR dr1 ⟨#[97]⟩ old = (dr2 old, 0) from Q2.out] at HAp
  clear hR
  go_wp2_with fail
  refine HAp.mono ?_
  rintro e w3 ⟨rfl, hR⟩
  clear HAp
  have HSy := Sync_run HA.out hR (by omega) (by have := L0.out; omega) ⟨#[97]⟩ (by decide)
  rw [show syncR (dr2 old) ⟨#[97]⟩ = (dr3 old, 0) from dr3_is old] at HSy
  clear hR
  go_wp2_with fail
  refine HSy.mono ?_
  rintro e w4 ⟨rfl, hR⟩
  clear HSy
  have HSd := SyncDirs_run hR (by omega) (by have := L0.out; omega)
  rw [dr4_is old] at HSd
  clear hR
  go_wp2_with fail
  refine HSd.mono ?_
  rintro e w5 ⟨rfl, hR⟩
  clear HSd
  have HFa := Fail_run hR (x0 % 8) (x0 % 2 == 1) (by omega)
  rw [HI.out] at HFa
  have g0 : w5.cell? ⟨w.heap.size, 0, none⟩ = some (.int .u8 x0) := (hR.wBelow.cell (p := ⟨w.heap.size, 0, none⟩) L1.out).trans C0.out
  clear hR
  go_wp2_with fail
  refine HFa.mono ?_
  rintro e w6 ⟨rfl, hR⟩
  clear HFa g0
  obtain ⟨D5, hD5⟩ : ∃ D5, D5 = dr5 old false 4 (x0 % 8) (x0 % 2 == 1) := ⟨_, rfl⟩
  rw [← hD5] at hR
  have E1 : Hid (Either old fresh (wroteD fresh D5) ∧ (goSafe (wroteD fresh D5) fresh.length = true → Either old fresh (endD (wroteD fresh D5)))) := by rw [hD5]; exact E0.out
  clear hD5 E0 HI
  have HC := Create_run HA.out hR (by omega) (by have := L0.out; omega) ⟨#[116]⟩ (by decide)
  clear hR
  go_wp2_with fail
  refine HC.mono ?_
  rintro e w7 ⟨rfl, hR⟩
  clear HC
  have HAp := Append_run2 HA.out hR (Below.refl _ _) (by omega) (by have := L0.out; omega) ⟨#[116]⟩ (by decide) (.slice a1 n1 c1) fresh (fun M h1 h2 => by rw [N1.out]; exact arg_bytes (V1.out) (HB1.out.trans (hR.wBelow.mono HB1.out.size)) (fun k q => Nat.le_trans (Nat.le_of_lt L1.out) (h1 k q)))
  clear hR
  go_wp2_with fail
  refine HAp.mono ?_
  rintro e w8 ⟨rfl, hR⟩
  clear HAp
  have HSy := Sync_run HA.out hR (by omega) (by have := L0.out; have := LF.out; omega) ⟨#[116]⟩ (by decide)
  clear hR
  go_wp2_with fail
  refine HSy.mono ?_
  rintro e w9 ⟨rfl, hR⟩
  clear HSy
  have HWr : Hid (Wrote W1 w9 bd (wroteD fresh D5)) := ⟨_, by have := L0.out; have := LF.out; omega, hR⟩
  clear hR
  generalize wroteD fresh D5 = D8 at *
  obtain ⟨b8', hb8, hR⟩ := HWr.out
  have HB8 := Lib.hid hb8
  have HSa := Safe_run hR (by omega) (by omega) ⟨#[116]⟩
  clear hR hb8 HWr
  obtain ⟨s, hs⟩ : ∃ s, s = safeR D8 ⟨#[116]⟩ := ⟨_, rfl⟩
  rw [← hs] at HSa
  obtain ⟨dn, hdn⟩ : ∃ dn, dn = D8.down := ⟨_, rfl⟩
  have E2 : Hid ((s = n1 → dn = false → Either old fresh (endD D8)) ∧ Either old fresh D8) := by
    refine ⟨fun e1 e2 => E1.out.2 ?_, E1.out.1⟩
    unfold goSafe
    rw [← hdn, e2, show safeR D8 pT = s from hs.symm, e1, N1.out]
    simp
  have HDN := Lib.hid hdn
  clear hs hdn E1
  go_wp2_with fail
  refine HSa.mono ?_
  rintro e w10 ⟨rfl, hR, _⟩
  clear HSa
  have HDo := Down_run hR
  rw [← HDN.out] at HDo
  have HR10 := Lib.hid hR
  clear hR
  have LL : Hid (n0 ≤ 500 ∧ n1 ≤ 500) := ⟨hl0, hl1⟩
  by_cases e : s = n1
  · obtain rfl := e
    cases dn with
    | false =>
      go_wp2_with fail
      refine HDo.mono ?_
      rintro e w11 ⟨rfl, rfl⟩
      clear HDo
      have HRe := Rename_run HA.out HR10.out (by omega) (by have := HB8.out; omega) ⟨#[116]⟩ ⟨#[97]⟩ (by decide) (by decide)
      go_wp2_with fail
      refine HRe.mono ?_
      rintro e w12 ⟨rfl, hR⟩
      clear HRe
      have HSd := SyncDirs_run hR (by omega) (by have := HB8.out; omega)
      clear hR
      go_wp2_with fail
      refine HSd.mono ?_
      rintro e w13 ⟨rfl, hR⟩
      clear HSd
      have HE : Hid (RunsE W1 w13 bd old fresh) := ⟨_, _, _, hR, by omega, HB8.out, E2.out.1 (by simp) (by simp)⟩
      obtain ⟨wz, rfl⟩ : ∃ wz, wz = w13 := ⟨_, rfl⟩
      clear hR E2
      obtain ⟨D, n, b, hR, hn, hb, hE⟩ := HE.out
      have g1 : wz.cell? ⟨w.heap.size, 1, none⟩ = some (.int .u8 x1) := (hR.wBelow.cell (p := ⟨w.heap.size, 1, none⟩) L1.out).trans C1.out
      have g2 : wz.cell? ⟨w.heap.size, 2, none⟩ = some (.int .u8 x2) := (hR.wBelow.cell (p := ⟨w.heap.size, 2, none⟩) L1.out).trans C2.out
      have hlz : w.heap.size < wz.heap.size := Nat.lt_of_lt_of_le L1.out hR.wBelow.size
      have HCr := Crash_run2 HA.out hR ((Below.refl _ wz).alloc (Nat.le_refl _) (.cells #[.int .u8 x2, .int .u8 x1] 5)) (by omega) (by omega) (x1 % 5) (by omega) (by omega) (.slice (some ⟨wz.heap.size, 0, none⟩) 2 2) [UInt8.ofNat x2.toNat, UInt8.ofNat x1.toNat]
        (fun M q1 q2 => by have := lit_bytes q2 (UInt8.ofNat x2.toNat) (UInt8.ofNat x1.toNat) (0, 0); rw [b8_of hx2 hx2', b8_of hx1 hx1'] at this; exact this)
      have RD := Lib.hid (hE.read (x1 % 5) [UInt8.ofNat x2.toNat, UInt8.ofNat x1.toNat])
      have HN := Lib.hid (And.intro hn hb)
      clear hR hE hn hb HE
      go_wp2_with fail
      refine HCr.mono ?_
      rintro e wc ⟨rfl, hR⟩
      clear HCr g1 g2 hlz
      have HRd := Read_run hR (by have := HN.out; omega) (by have := HN.out; omega) ⟨#[97]⟩
      have RD2 : Hid (readE (crashR D (x1 % 5) [UInt8.ofNat x2.toNat, UInt8.ofNat x1.toNat]) ⟨#[97]⟩ = 0 ∧ (readB (crashR D (x1 % 5) [UInt8.ofNat x2.toNat, UInt8.ofNat x1.toNat]) ⟨#[97]⟩ = old ∨ readB (crashR D (x1 % 5) [UInt8.ofNat x2.toNat, UInt8.ofNat x1.toNat]) ⟨#[97]⟩ = fresh)) := RD.out
      generalize crashR D (x1 % 5) [UInt8.ofNat x2.toNat, UInt8.ofNat x1.toNat] = DC at *
      rw [RD2.out.1] at HRd
      obtain ⟨lr, hlr⟩ : ∃ lr, lr = readB DC ⟨#[97]⟩ := ⟨_, rfl⟩
      rw [← hlr] at HRd
      have RD3 : Hid (lr = old ∨ lr = fresh) := by rw [hlr]; exact RD2.out.2
      clear hlr RD RD2 hR
      go_wp2_with fail
      refine HRd.mono ?_
      rintro e wd ⟨v, rfl, hr, hR, _⟩
      clear HRd
      have sR := row_string hr
      obtain ⟨av, cv, hv⟩ := ownsRow_slice hr
      have sO := bytes_string (arg_bytes (V0.out) (HB1.out.trans (hR.wBelow.mono HB1.out.size)) (M := fun _ => False) (fun _ q => q.elim))
      have sF := bytes_string (arg_bytes (V1.out) (HB1.out.trans (hR.wBelow.mono HB1.out.size)) (M := fun _ => False) (fun _ q => q.elim))
      rw [← N0.out] at sO
      rw [← N1.out] at sF
      have HAw := awake_calls wd (HA.out.below hR.wBelow)
      have HF := Lib.hid (HB1.out.trans (hR.wBelow.mono HB1.out.size))
      have RD4 : Hid ((⟨lr.toArray⟩ : ByteArray) = ⟨old.toArray⟩ ∨ (⟨lr.toArray⟩ : ByteArray) = ⟨fresh.toArray⟩) := by
        rcases RD3.out with e | e
        · exact .inl (by rw [e])
        · exact .inr (by rw [e])
      subst hv
      clear hr hR RD3
      generalize (⟨lr.toArray⟩ : ByteArray) = tR at *
      generalize (⟨old.toArray⟩ : ByteArray) = tO at *
      generalize (⟨fresh.toArray⟩ : ByteArray) = tF at *
      by_cases e : tR = tO
      · subst e
        go_wp2_with fail
        refine HAw.mono ?_
        rintro e we ⟨rfl, hbe⟩
        have HG : Hid (Below w.heap.size w we) := HF.out.trans (hbe.mono HF.out.size)
        clear HAw hbe sR sO sF
        go_wp2
        go_ret
        exact ⟨rfl, HG.out⟩
      · obtain rfl : tR = tF := by
          rcases RD4.out with q | q
          · exact absurd q e
          · exact q
        have hne : (tR.toList == tO.toList) = false := bytes_ne e
        have hne2 : ¬ tR.toList = tO.toList := by simpa using hne
        clear RD4
        go_wp2_with fail
        refine HAw.mono ?_
        rintro e we ⟨rfl, hbe⟩
        have HG : Hid (Below w.heap.size w we) := HF.out.trans (hbe.mono HF.out.size)
        clear HAw hbe sR sO sF
        go_wp2
        go_ret
        exact ⟨rfl, HG.out⟩
    | true =>
      go_wp2_with fail
      refine HDo.mono ?_
      rintro e w11 ⟨rfl, rfl⟩
      clear HDo
      have HE : Hid (RunsE W1 w11 bd old fresh) := ⟨_, _, _, HR10.out, by omega, HB8.out, E2.out.2⟩
      obtain ⟨wz, rfl⟩ : ∃ wz, wz = w11 := ⟨_, rfl⟩
      clear E2
      obtain ⟨D, n, b, hR, hn, hb, hE⟩ := HE.out
      have g1 : wz.cell? ⟨w.heap.size, 1, none⟩ = some (.int .u8 x1) := (hR.wBelow.cell (p := ⟨w.heap.size, 1, none⟩) L1.out).trans C1.out
      have g2 : wz.cell? ⟨w.heap.size, 2, none⟩ = some (.int .u8 x2) := (hR.wBelow.cell (p := ⟨w.heap.size, 2, none⟩) L1.out).trans C2.out
      have hlz : w.heap.size < wz.heap.size := Nat.lt_of_lt_of_le L1.out hR.wBelow.size
      have HCr := Crash_run2 HA.out hR ((Below.refl _ wz).alloc (Nat.le_refl _) (.cells #[.int .u8 x2, .int .u8 x1] 5)) (by omega) (by omega) (x1 % 5) (by omega) (by omega) (.slice (some ⟨wz.heap.size, 0, none⟩) 2 2) [UInt8.ofNat x2.toNat, UInt8.ofNat x1.toNat]
        (fun M q1 q2 => by have := lit_bytes q2 (UInt8.ofNat x2.toNat) (UInt8.ofNat x1.toNat) (0, 0); rw [b8_of hx2 hx2', b8_of hx1 hx1'] at this; exact this)
      have RD := Lib.hid (hE.read (x1 % 5) [UInt8.ofNat x2.toNat, UInt8.ofNat x1.toNat])
      have HN := Lib.hid (And.intro hn hb)
      clear hR hE hn hb HE
      go_wp2_with fail
      refine HCr.mono ?_
      rintro e wc ⟨rfl, hR⟩
      clear HCr g1 g2 hlz
      have HRd := Read_run hR (by have := HN.out; omega) (by have := HN.out; omega) ⟨#[97]⟩
      have RD2 : Hid (readE (crashR D (x1 % 5) [UInt8.ofNat x2.toNat, UInt8.ofNat x1.toNat]) ⟨#[97]⟩ = 0 ∧ (readB (crashR D (x1 % 5) [UInt8.ofNat x2.toNat, UInt8.ofNat x1.toNat]) ⟨#[97]⟩ = old ∨ readB (crashR D (x1 % 5) [UInt8.ofNat x2.toNat, UInt8.ofNat x1.toNat]) ⟨#[97]⟩ = fresh)) := RD.out
      generalize crashR D (x1 % 5) [UInt8.ofNat x2.toNat, UInt8.ofNat x1.toNat] = DC at *
      rw [RD2.out.1] at HRd
      obtain ⟨lr, hlr⟩ : ∃ lr, lr = readB DC ⟨#[97]⟩ := ⟨_, rfl⟩
      rw [← hlr] at HRd
      have RD3 : Hid (lr = old ∨ lr = fresh) := by rw [hlr]; exact RD2.out.2
      clear hlr RD RD2 hR
      go_wp2_with fail
      refine HRd.mono ?_
      rintro e wd ⟨v, rfl, hr, hR, _⟩
      clear HRd
      have sR := row_string hr
      obtain ⟨av, cv, hv⟩ := ownsRow_slice hr
      have sO := bytes_string (arg_bytes (V0.out) (HB1.out.trans (hR.wBelow.mono HB1.out.size)) (M := fun _ => False) (fun _ q => q.elim))
      have sF := bytes_string (arg_bytes (V1.out) (HB1.out.trans (hR.wBelow.mono HB1.out.size)) (M := fun _ => False) (fun _ q => q.elim))
      rw [← N0.out] at sO
      rw [← N1.out] at sF
      have HAw := awake_calls wd (HA.out.below hR.wBelow)
      have HF := Lib.hid (HB1.out.trans (hR.wBelow.mono HB1.out.size))
      have RD4 : Hid ((⟨lr.toArray⟩ : ByteArray) = ⟨old.toArray⟩ ∨ (⟨lr.toArray⟩ : ByteArray) = ⟨fresh.toArray⟩) := by
        rcases RD3.out with e | e
        · exact .inl (by rw [e])
        · exact .inr (by rw [e])
      subst hv
      clear hr hR RD3
      generalize (⟨lr.toArray⟩ : ByteArray) = tR at *
      generalize (⟨old.toArray⟩ : ByteArray) = tO at *
      generalize (⟨fresh.toArray⟩ : ByteArray) = tF at *
      by_cases e : tR = tO
      · subst e
        go_wp2_with fail
        refine HAw.mono ?_
        rintro e we ⟨rfl, hbe⟩
        have HG : Hid (Below w.heap.size w we) := HF.out.trans (hbe.mono HF.out.size)
        clear HAw hbe sR sO sF
        go_wp2
        go_ret
        exact ⟨rfl, HG.out⟩
      · obtain rfl : tR = tF := by
          rcases RD4.out with q | q
          · exact absurd q e
          · exact q
        have hne : (tR.toList == tO.toList) = false := bytes_ne e
        have hne2 : ¬ tR.toList = tO.toList := by simpa using hne
        clear RD4
        go_wp2_with fail
        refine HAw.mono ?_
        rintro e we ⟨rfl, hbe⟩
        have HG : Hid (Below w.heap.size w we) := HF.out.trans (hbe.mono HF.out.size)
        clear HAw hbe sR sO sF
        go_wp2
        go_ret
        exact ⟨rfl, HG.out⟩
  · have hne : (s == n1) = false := by simpa using e
    have hne3 : ¬ (s : Int) = (n1 : Int) := by omega
    have HE : Hid (RunsE W1 w10 bd old fresh) := ⟨_, _, _, HR10.out, by omega, HB8.out, E2.out.2⟩
    obtain ⟨wz, rfl⟩ : ∃ wz, wz = w10 := ⟨_, rfl⟩
    clear E2 HDo
    obtain ⟨D, n, b, hR, hn, hb, hE⟩ := HE.out
    have g1 : wz.cell? ⟨w.heap.size, 1, none⟩ = some (.int .u8 x1) := (hR.wBelow.cell (p := ⟨w.heap.size, 1, none⟩) L1.out).trans C1.out
    have g2 : wz.cell? ⟨w.heap.size, 2, none⟩ = some (.int .u8 x2) := (hR.wBelow.cell (p := ⟨w.heap.size, 2, none⟩) L1.out).trans C2.out
    have hlz : w.heap.size < wz.heap.size := Nat.lt_of_lt_of_le L1.out hR.wBelow.size
    have HCr := Crash_run2 HA.out hR ((Below.refl _ wz).alloc (Nat.le_refl _) (.cells #[.int .u8 x2, .int .u8 x1] 5)) (by omega) (by omega) (x1 % 5) (by omega) (by omega) (.slice (some ⟨wz.heap.size, 0, none⟩) 2 2) [UInt8.ofNat x2.toNat, UInt8.ofNat x1.toNat]
      (fun M q1 q2 => by have := lit_bytes q2 (UInt8.ofNat x2.toNat) (UInt8.ofNat x1.toNat) (0, 0); rw [b8_of hx2 hx2', b8_of hx1 hx1'] at this; exact this)
    have RD := Lib.hid (hE.read (x1 % 5) [UInt8.ofNat x2.toNat, UInt8.ofNat x1.toNat])
    have HN := Lib.hid (And.intro hn hb)
    clear hR hE hn hb HE
    go_wp2_with fail
    refine HCr.mono ?_
    rintro e wc ⟨rfl, hR⟩
    clear HCr g1 g2 hlz
    have HRd := Read_run hR (by have := HN.out; omega) (by have := HN.out; omega) ⟨#[97]⟩
    have RD2 : Hid (readE (crashR D (x1 % 5) [UInt8.ofNat x2.toNat, UInt8.ofNat x1.toNat]) ⟨#[97]⟩ = 0 ∧ (readB (crashR D (x1 % 5) [UInt8.ofNat x2.toNat, UInt8.ofNat x1.toNat]) ⟨#[97]⟩ = old ∨ readB (crashR D (x1 % 5) [UInt8.ofNat x2.toNat, UInt8.ofNat x1.toNat]) ⟨#[97]⟩ = fresh)) := RD.out
    generalize crashR D (x1 % 5) [UInt8.ofNat x2.toNat, UInt8.ofNat x1.toNat] = DC at *
    rw [RD2.out.1] at HRd
    obtain ⟨lr, hlr⟩ : ∃ lr, lr = readB DC ⟨#[97]⟩ := ⟨_, rfl⟩
    rw [← hlr] at HRd
    have RD3 : Hid (lr = old ∨ lr = fresh) := by rw [hlr]; exact RD2.out.2
    clear hlr RD RD2 hR
    go_wp2_with fail
    refine HRd.mono ?_
    rintro e wd ⟨v, rfl, hr, hR, _⟩
    clear HRd
    have sR := row_string hr
    obtain ⟨av, cv, hv⟩ := ownsRow_slice hr
    have sO := bytes_string (arg_bytes (V0.out) (HB1.out.trans (hR.wBelow.mono HB1.out.size)) (M := fun _ => False) (fun _ q => q.elim))
    have sF := bytes_string (arg_bytes (V1.out) (HB1.out.trans (hR.wBelow.mono HB1.out.size)) (M := fun _ => False) (fun _ q => q.elim))
    rw [← N0.out] at sO
    rw [← N1.out] at sF
    have HAw := awake_calls wd (HA.out.below hR.wBelow)
    have HF := Lib.hid (HB1.out.trans (hR.wBelow.mono HB1.out.size))
    have RD4 : Hid ((⟨lr.toArray⟩ : ByteArray) = ⟨old.toArray⟩ ∨ (⟨lr.toArray⟩ : ByteArray) = ⟨fresh.toArray⟩) := by
      rcases RD3.out with e | e
      · exact .inl (by rw [e])
      · exact .inr (by rw [e])
    subst hv
    clear hr hR RD3
    generalize (⟨lr.toArray⟩ : ByteArray) = tR at *
    generalize (⟨old.toArray⟩ : ByteArray) = tO at *
    generalize (⟨fresh.toArray⟩ : ByteArray) = tF at *
    by_cases e : tR = tO
    · subst e
      go_wp2_with fail
      refine HAw.mono ?_
      rintro e we ⟨rfl, hbe⟩
      have HG : Hid (Below w.heap.size w we) := HF.out.trans (hbe.mono HF.out.size)
      clear HAw hbe sR sO sF
      go_wp2
      go_ret
      exact ⟨rfl, HG.out⟩
    · obtain rfl : tR = tF := by
        rcases RD4.out with q | q
        · exact absurd q e
        · exact q
      have hne : (tR.toList == tO.toList) = false := bytes_ne e
      have hne2 : ¬ tR.toList = tO.toList := by simpa using hne
      clear RD4
      go_wp2_with fail
      refine HAw.mono ?_
      rintro e we ⟨rfl, hbe⟩
      have HG : Hid (Below w.heap.size w we) := HF.out.trans (hbe.mono HF.out.size)
      clear HAw hbe sR sO sF
      go_wp2
      go_ret
      exact ⟨rfl, HG.out⟩

set_option maxHeartbeats 2000000 in
theorem DiskReplaced_long (w : World) (hA : Amb w) (a0 a1 : Option Addr) (n0 n1 c0 c1 : Nat) (x0 x1 x2 : Int) (h : 500 < n0 ∨ 500 < n1) :
    Calls Tryd.prog 3 #[.slice a0 n0 c0, .slice a1 n1 c1, .agg #[.int .u8 x0, .int .u8 x1, .int .u8 x2]] w fun e w' => e = .returned (.bool true) ∧ Below w.heap.size w w' := by
  have hb1 : Below w.heap.size w (w.alloc (.cells #[.int .u8 x0, .int .u8 x1, .int .u8 x2] 23)) := (Below.refl _ _).alloc (Nat.le_refl _) _
  have HAw := awake_calls _ (hA.below hb1)
  have HB1 := Lib.hid hb1
  clear hA hb1
  by_cases e : 500 < n0
  · have e0 : decide ((500 : Int) < (n0 : Int)) = true := decide_eq_true (by omega)
    clear h e
    go_enter Tryd.func3, Tryd.ntmps3
    go_wp2_with fail
    refine HAw.mono ?_
    rintro e we ⟨rfl, hbe⟩
    have HG : Hid (Below w.heap.size w we) := HB1.out.trans (hbe.mono HB1.out.size)
    clear HAw hbe
    go_wp2
    go_ret
    exact ⟨rfl, HG.out⟩
  · have e1 : decide ((500 : Int) < (n1 : Int)) = true := decide_eq_true (by omega)
    have e0 : decide ((500 : Int) < (n0 : Int)) = false := decide_eq_false (by omega)
    clear h e
    go_enter Tryd.func3, Tryd.ntmps3
    go_wp2_with fail
    refine HAw.mono ?_
    rintro e we ⟨rfl, hbe⟩
    have HG : Hid (Below w.heap.size w we) := HB1.out.trans (hbe.mono HB1.out.size)
    clear HAw hbe
    go_wp2
    go_ret
    exact ⟨rfl, HG.out⟩
end Go.Proofs.YtihojcjijbidpaaDoor
