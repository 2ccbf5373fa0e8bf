/- A bundle of texts: LawL1. -/
import Derived.Test.YtabhndfdioimcaaB03
import Derived.Test.YtabhndfdioimcaaB02
/- The walk of law4.SumsTrue. -/
set_option linter.unusedVariables false
namespace Go.Proofs.Ytabhndfdioimcaa
open Go.RowKit Zp

set_option maxRecDepth 100000 in
set_option maxHeartbeats 8000000 in
theorem sumsTrue_walk (w : World) (p : Int) (hp : I64 p) (A : Option Addr) (d ca : Nat) (ts : List (List Int)) (ha : ArgM w A d ca ts) (B : Option Addr) (m cb : Nat) (rs : List Int) (hb : ArgS w B m cb rs) :
    Calls Try.prog 6 #[vi p, .slice A d ca, .slice B m cb] w fun e w' => SaysW (.bool true) w e w' := by
  have HL := Lib.hid (lives4_any w)
  have HA := Lib.hid ha
  have HB := Lib.hid hb
  have hd63 : d < 9223372036854775808 := by have := ha.cap; have := ha.max; omega
  have hm63 : m < 9223372036854775808 := by have := hb.cap; have := hb.reach; omega
  clear ha hb
  by_cases hF : HasField p
  · obtain ⟨q, rfl⟩ := Int.eq_ofNat_of_zero_le (a := p) (by have := hF.1; omega)
    have hpq : IsPrime q := by simpa using hF.2.2
    haveI := hpq.ne
    have h3 : 3 ≤ q := by have := hF.1; omega
    have hqm : q ≤ 2147483647 := by have := hF.2.1; omega
    have HP := Lib.hid (fun W => plain4_yes q h3 hqm hpq W)
    clear hF
    go_enter Try.func6, Try.ntmps6
    go_wp2_with fail
    refine (HL.out).mono ?_
    rintro _ w1 ⟨rfl, hb1⟩
    have HB1 := Lib.hid hb1
    clear hb1
    go_wp2_with fail
    refine (HP.out w1).mono ?_
    rintro _ w2 ⟨b, rfl, F, hb2⟩
    have hbw := HB1.out.trans (hb2.mono HB1.out.size)
    have hTB := HA.out.tb.below hbw
    have hSB := HB.out.sl.below hbw
    have HBW := Lib.hid hbw
    have HTB := Lib.hid hTB
    have HSB := Lib.hid hSB
    have HF := Lib.hid F
    clear hb2 hbw hTB hSB F
    by_cases hgood : 1 ≤ d ∧ d ≤ 4 ∧ d < q ∧ Over ts m
    · obtain ⟨hd1, hd2, hdq, hov⟩ := hgood
      have hlen : ∀ t ∈ ts, t.length = 2 ^ m := fun t ht => (hov t ht).2
      have hmk := smake_any q _ b A d ca ts HA.out.len hd1 hd2 m hov hdq B cb rs HB.out.len HB.out.i64 w2 HF.out HTB.out HSB.out
      have HMK := Lib.hid hmk
      have HTO := Lib.hid (fun W hc hT => Total_any q b (by omega) hqm A d ca ts HA.out.len hd1 hd2 m hov W hc hT)
      have hv12 : m ≤ 12 := (hov _ (List.getElem_mem (show 0 < ts.length by rw [HA.out.len]; omega))).1
      have HST := Lib.hid (sum_true (q := q) (v := m) hpq hd1 hdq ts rs (fv (totP d (2 ^ m) (tabOf q ts))) (by rw [el_fv]))
      have HFE := Lib.hid (fun j hj => finF_ext (q := q) d m ts HA.out.len hlen rs HB.out.len (j := j) hj)
      have HOV := Lib.hid hov
      clear hmk hov hlen
      go_wp2_with fail
      refine (HMK.out).mono ?_
      rintro _ w3 ⟨AR, AF, rfl, hTR, hSF, hb3⟩
      obtain ⟨W4, hW4⟩ : ∃ W4, W4 = w3.alloc (.cells #[.slice AR m m, .slice AF d d] 44) := ⟨_, rfl⟩
      have hB4 : Blk W4 w3.heap.size 44 #[.slice AR m m, .slice AF d d] := by rw [hW4]; exact Blk.new _ _ _
      have hb34 : Below w3.heap.size w3 W4 := by rw [hW4]; exact (Below.refl _ _).alloc (Nat.le_refl _) _
      have hTR4 := hTR.below hb34
      have hSF4 := hSF.below hb34
      have hb24 := hb3.trans (hb34.mono hb3.size)
      have HW4 := Lib.hid hW4
      have HB4 := Lib.hid hB4
      have HTR4 := Lib.hid hTR4
      have HSF4 := Lib.hid hSF4
      have HB24 := Lib.hid hb24
      have hl4 := Blk.lt hB4
      clear hW4 hB4 hTR4 hSF4 hb24 hb34 hTR hSF hb3
      go_wp2_with fail
      rw [← HW4.out]
      have F4 := HF.out.below HB24.out HF.out.le
      refine (HTO.out W4 F4.c0 (HTB.out.below HB24.out)).mono ?_
      rintro _ w5 ⟨rfl, hb5⟩
      obtain ⟨X, hX⟩ : ∃ X, X = fv (totP d (2 ^ m) (tabOf q ts)) := ⟨_, rfl⟩
      have hXI : I64 X := by rw [hX]; exact i64_fv _ hqm
      rw [← hX] at HST ⊢
      have hb25 := HB24.out.trans (hb5.mono HB24.out.size)
      have hB5 := Blk.below HB4.out hb5 hl4
      have c0 := (Blk.cell hB5 0).trans (show _ = some (Value.slice AR m m) from rfl)
      have c1 := (Blk.cell hB5 1).trans (show _ = some (Value.slice AF d d) from rfl)
      have hck := scheck_in q _ b X hXI d hd1 hd2 hdq AR AF B m m d cb hv12 (rdL q d m ts rs m) ((List.range d).map fun j => fv (finF q d m ts rs j)) rs (by simp [rdL]) (by simp) HB.out.len (by intro x hx; obtain ⟨y, _, rfl⟩ := List.mem_map.1 hx; exact i64_fv _ hqm) HB.out.i64 w5 (HF.out.below hb25 HF.out.le) (HTR4.out.below hb5) (HSF4.out.below hb5) (HSB.out.below hb25)
      rw [HST.out] at hck
      have HCK := Lib.hid hck
      have HB25 := Lib.hid hb25
      have HB5 := Lib.hid hB5
      have HSF5 := Lib.hid (HSF4.out.below hb5)
      have hl5 := Nat.lt_of_lt_of_le hl4 hb5.size
      clear hck hb25 hB5 hb5 hX F4
      go_wp2_with fail
      refine (HCK.out).mono ?_
      rintro _ w6 ⟨rfl, hb6⟩
      have hb26 := HB25.out.trans (hb6.mono HB25.out.size)
      have hB6 := Blk.below HB5.out hb6 hl5
      have HB26 := Lib.hid hb26
      have HB6 := Lib.hid hB6
      have HSF6 := Lib.hid (HSF5.out.below hb6)
      have hl6 := Nat.lt_of_lt_of_le hl5 hb6.size
      have c0 := (Blk.cell hB6 0).trans (show _ = some (Value.slice AR m m) from rfl)
      have c1 := (Blk.cell hB6 1).trans (show _ = some (Value.slice AF d d) from rfl)
      clear hb26 hB6 hb6
      have td : ((d : Int) != (d : Int)) = false := by simp
      go_wp2
      go_loopw [13, 14, 15] (fun t _ _ wr => ∃ k : Nat, k ≤ d ∧ t = vi k ∧ Below w6.heap.size w6 wr) (fun t _ _ _ => d - (intOf t).toNat)
      case atStart => exact ⟨0, by omega, rfl, Below.refl _ _⟩
      case round =>
        obtain ⟨k, hk, rfl, hb⟩ := hrel
        by_cases hkd : k < d
        · have hkt : k < ts.length := by rw [HA.out.len]; exact hkd
          have hbr := HB26.out.trans (hb.mono HB26.out.size)
          obtain ⟨ad, A1, n1, c1', rfl, hbd, hcc, hl1, hn1, hs1, hi1⟩ := (HTB.out.below hbr) k hkt
          have hex := extend_any q _ b n1 m (by rw [← hl1]; exact HOV.out _ (List.getElem_mem hkt)) A1 c1' ts[k] hl1 hi1 B cb rs HB.out.len HB.out.i64 wr (HF.out.below hbr HF.out.le) hs1 (HSB.out.below hbr)
          have htb : els q ts[k] = tabOf q ts k := by unfold tabOf; rw [List.getD_eq_getElem?_getD, List.getElem?_eq_getElem hkt]; rfl
          rw [htb, HFE.out k hkd] at hex
          obtain ⟨ae, rfl, hae, hce⟩ := HSF6.out.at_ (k := k) (by simpa using hkd)
          have hce' : w6.cell? (ae.add k) = some (vi (fv (finF q d m ts rs k))) := by rw [hce]; simp
          generalize fv (finF q d m ts rs k) = Y at hex hce'
          have HEX := Lib.hid hex
          have HBR := Lib.hid hb
          have k1 : (0 : Int) ≤ (k : Int) := by omega
          have k2 : (k : Int) < (d : Int) := by omega
          clear hex htb hl1 hi1 hs1 hbr hb hce
          go_wp2_with fail
          refine (HEX.out).mono ?_
          rintro _ w7 ⟨rfl, hb7⟩
          have hb67 := HBR.out.trans (hb7.mono HBR.out.size)
          have hcy := (hb67.cell (p := ae.add k) (by rw [block_of_add]; exact hae)).trans hce'
          have hc7 := (hb67.cell (p := ⟨w3.heap.size, 1, none⟩) hl6).trans c1
          have HB67 := Lib.hid hb67
          clear hb67 hb7
          go_wp2
          go_roundw
          case rel => exact ⟨k + 1, by omega, by go_num, HB67.out⟩
          case measure => simp [intOf]; omega
        · have ek : k = d := by omega
          have t9 : ¬ (k : Int) < (d : Int) := by omega
          have HWW := Lib.hid ((HBW.out.trans (HB26.out.mono HBW.out.size)).trans (hb.mono (HBW.out.trans (HB26.out.mono HBW.out.size)).size))
          clear ek hb
          go_wp2
          go_ret
          exact ⟨rfl, HWW.out⟩
    · have hbad : ∃ k : Int, Calls Try.prog 23 #[.pointer (some ⟨b, 0, none⟩), .slice A d ca, .slice B m cb] w2 fun e w' => e = NoSummed k ∧ Below w2.heap.size w2 w' := by
        by_cases h1 : d = 0 ∨ 4 < d
        · exact ⟨2, smake_bad b A d ca B m cb w2 fun W hW => (checked_d A d ca hd63 h1 W).mono fun e w' h => ⟨h.1, h.2 ▸ Below.refl _ _⟩⟩
        · by_cases h2 : ∃ v, Over ts v
          · obtain ⟨v, hv⟩ := h2
            by_cases h4 : m = v
            · subst h4
              exact ⟨3, smake_big q b A d ca ts HA.out.len (by omega) (by omega) m hv B cb (by
                rcases Nat.lt_or_ge d q with h5 | h5
                · exact absurd ⟨by omega, by omega, h5, hv⟩ hgood
                · exact h5) w2 HF.out.c0 HTB.out⟩
            · exact ⟨2, smake_len b A d ca ts HA.out.len (by omega) (by omega) v hv B m cb h4 hm63 w2 HTB.out⟩
          · exact ⟨2, smake_bad b A d ca B m cb w2 fun W hW => by
              have hbW : Below w2.heap.size w2 W := by rw [hW]; exact (Below.refl _ _).alloc (Nat.le_refl _) _
              exact checked_no A d ca ts HA.out.len (by omega) (by omega) h2 W (HTB.out.below hbW)⟩
      obtain ⟨k, hk⟩ := hbad
      have HK := Lib.hid hk
      clear hk hgood
      go_wp2_with fail
      refine (HK.out).mono ?_
      rintro e w3 ⟨he, hb3⟩
      unfold NoSummed at he
      subst he
      have HW := Lib.hid (HBW.out.trans (hb3.mono HBW.out.size))
      clear hb3
      go_wp2
      go_ret
      exact ⟨rfl, HW.out.alloc HW.out.size _⟩
  · have HP := Lib.hid (fun W => plain4_no p hF W)
    clear hF
    go_enter Try.func6, Try.ntmps6
    go_wp2_with fail
    refine (HL.out).mono ?_
    rintro _ w1 ⟨rfl, hb1⟩
    go_wp2_with fail
    refine (HP.out w1).mono ?_
    rintro _ _ ⟨rfl, rfl⟩
    go_wp2
    go_ret
    exact ⟨rfl, hb1⟩
end Go.Proofs.Ytabhndfdioimcaa
