/- A bundle of texts: Ck, Tr, LawM2. -/
import Derived.Test.YtgmkcmahbefcoaaDoorB03
import Derived.Test.YtgmkcmahbefcoaaDoorB05
import Derived.Deep.QuietTactic
/- The walk of sums.Check. -/
set_option linter.unusedVariables false
namespace Go.Proofs.YtgmkcmahbefcoaaDoor
open Go.RowKit Zp

section
open Classical
variable {q : Nat} [NeZero q]
/-- the one polynomial through points -/
noncomputable def fitP (xs ys : List (Fin q)) : List (Fin q) := if h : ∃ o, Fitted xs ys xs.length o then Classical.choose h else []
theorem fitP_eq (hq : IsPrime q) {xs ys o : List (Fin q)} (hx : xs.Nodup) (h : Fitted xs ys xs.length o) : fitP xs ys = o := by
  unfold fitP
  rw [dif_pos ⟨o, h⟩]
  exact Fitted.unique hq hx (Classical.choose_spec (⟨o, h⟩ : ∃ o, Fitted xs ys xs.length o)) h
/-- 0 .. d -/
def upI (k : Nat) : List Int := (List.range k).map fun (i : Nat) => (i : Int)
theorem upI_len (k : Nat) : (upI k).length = k := by simp [upI]
theorem upI_succ (k : Nat) : upI (k + 1) = upI k ++ [(k : Int)] := by simp [upI, List.range_succ]
theorem upI_nodup {k : Nat} (hk : k ≤ q) : (els q (upI k)).Nodup := by
  unfold els upI
  rw [List.map_map]
  unfold List.Nodup
  rw [List.pairwise_map]
  refine List.Pairwise.imp_of_mem (fun {a b} ha hb hne h => ?_) List.nodup_range
  have ha := List.mem_range.1 ha
  have hb := List.mem_range.1 hb
  have h' := congrArg fv h
  simp only [Function.comp] at h'
  rw [el_natCast_of_lt (by omega), el_natCast_of_lt (by omega)] at h'
  omega
/-- what is claimed behind k rounds -/
noncomputable def clK (d : Nat) (claim : Int) (ls : List (List Int)) (rs : List Int) : Nat → Fin q
  | 0 => el q claim
  | k + 1 => ev (fitP (els q (upI (d + 1))) (els q (ls.getD k []))) (el q (rs.getD k 0))
/-- round i says what is claimed -/
def SumAt (d : Nat) (claim : Int) (ls : List (List Int)) (rs : List Int) (i : Nat) : Prop :=
  el q ((ls.getD i []).getD 0 0) + el q ((ls.getD i []).getD 1 0) = (clK d claim ls rs i : Fin q)
def prodE (fs : List Int) : Fin q := fs.foldl (fun a x => a * el q x) 1
/-- is it taken? -/
noncomputable def chkB (q : Nat) [NeZero q] (d : Nat) (claim : Int) (ls : List (List Int)) (fs rs : List Int) : Bool :=
  decide ((∀ l ∈ ls, l.length = d + 1) ∧ (∀ i, i < ls.length → SumAt (q := q) d claim ls rs i) ∧ prodE fs = (clK d claim ls rs ls.length : Fin q))
theorem chkB_true {d : Nat} {claim : Int} {ls : List (List Int)} {fs rs : List Int} (h : (∀ l ∈ ls, l.length = d + 1) ∧ (∀ i, i < ls.length → SumAt (q := q) d claim ls rs i) ∧ prodE fs = (clK d claim ls rs ls.length : Fin q)) : chkB q d claim ls fs rs = true := decide_eq_true h
theorem chkB_false {d : Nat} {claim : Int} {ls : List (List Int)} {fs rs : List Int} (h : ¬ ((∀ l ∈ ls, l.length = d + 1) ∧ (∀ i, i < ls.length → SumAt (q := q) d claim ls rs i) ∧ prodE fs = (clK d claim ls rs ls.length : Fin q))) : chkB q d claim ls fs rs = false := decide_eq_false h
end
/-- may it be looked at? -/
def ChkIn (q : Nat) (d : Int) (nR nF m : Nat) : Prop := 1 ≤ d ∧ d ≤ 4 ∧ d < q ∧ m ≤ 12 ∧ nR = m ∧ (nF : Int) = d
set_option maxRecDepth 100000 in
set_option maxHeartbeats 4000000 in
theorem scheck_out (q b : Nat) (hq2 : q ≤ 2147483647) (claim d : Int) (hd : I64 d) (AR AF B : Option Addr) (nR cR nF cF m cb : Nat) (hR : nR < 9223372036854775808) (hF : nF < 9223372036854775808) (hm : m < 9223372036854775808) (h : ¬ ChkIn q d nR nF m) (w : World) (hcb : w.cell? ⟨b, 0, none⟩ = some (vi q)) :
    Calls Tryd.prog 18 #[.pointer (some ⟨b, 0, none⟩), vi claim, vi d, .agg #[.slice AR nR cR, .slice AF nF cF], .slice B m cb] w fun e w' => e = .returned (.bool false) ∧ Below w.heap.size w w' := by
  have hbl := block_lt_of_cell hcb
  have hb1 : Below w.heap.size w ((w.alloc (.cells #[vi d] 3)).alloc (.cells #[.slice AR nR cR, .slice AF nF cF] 29)) := ((Below.refl _ _).alloc (Nat.le_refl _) _).alloc (by simp) _
  have hcb' := (hb1.cell (p := ⟨b, 0, none⟩) hbl).trans hcb
  have hD := (Blk.new w 3 #[vi d]).alloc (.cells #[.slice AR nR cR, .slice AF nF cF] 29)
  have hS := Blk.new (w.alloc (.cells #[vi d] 3)) 29 #[.slice AR nR cR, .slice AF nF cF]
  rw [World.size_alloc] at hS
  have c0 := (Blk.cell hD 0).trans (show _ = some (vi d) from rfl)
  have s0 := (Blk.cell hS 0).trans (show _ = some (Value.slice AR nR cR) from rfl)
  have s1 := (Blk.cell hS 1).trans (show _ = some (Value.slice AF nF cF) from rfl)
  have HP := Lib.hid (fun W hc => p_any q b W hc)
  have HB := Lib.hid hb1
  obtain ⟨hd1, hd2⟩ := hd
  clear hb1 hcb hD hS
  rcases (show d < 1 ∨ (1 ≤ d ∧ 4 < d) ∨ (1 ≤ d ∧ d ≤ 4 ∧ (q : Int) ≤ d) ∨ (1 ≤ d ∧ d ≤ 4 ∧ d < q ∧ 12 < m) ∨ (1 ≤ d ∧ d ≤ 4 ∧ d < q ∧ m ≤ 12 ∧ nR ≠ m) ∨ (1 ≤ d ∧ d ≤ 4 ∧ d < q ∧ m ≤ 12 ∧ nR = m ∧ (nF : Int) ≠ d) by unfold ChkIn at h; omega) with h1 | ⟨h1, h2⟩ | ⟨h1, h2, h3⟩ | ⟨h1, h2, h3, h4⟩ | ⟨h1, h2, h3, h4, h5⟩ | ⟨h1, h2, h3, h4, h5, h6⟩
  · have t1 : decide (d < 1) = true := by simp; omega
    clear h
    go_enter Tryd.func18, Tryd.ntmps18
    go_wp2
    go_quiet ((go_at_call 32; exact quiet_eq (HP.out _ (by exact hcb'))))
    go_wp2
    go_ret
    exact ⟨rfl, below_drewN HB.out _⟩
  · have t1 : decide (d < 1) = false := by simp; omega
    have t2 : decide (4 < d) = true := by simp; omega
    clear h
    go_enter Tryd.func18, Tryd.ntmps18
    go_wp2
    go_quiet ((go_at_call 32; exact quiet_eq (HP.out _ (by exact hcb'))))
    go_wp2
    go_ret
    exact ⟨rfl, below_drewN HB.out _⟩
  · have t1 : decide (d < 1) = false := by simp; omega
    have t2 : decide (4 < d) = false := by simp; omega
    have t3 : decide ((q : Int) ≤ d) = true := by simp; omega
    clear h
    go_enter Tryd.func18, Tryd.ntmps18
    go_wp2
    go_quiet ((go_at_call 32; exact quiet_eq (HP.out _ (by exact hcb'))))
    go_wp2
    go_ret
    exact ⟨rfl, below_drewN HB.out _⟩
  · have t1 : decide (d < 1) = false := by simp; omega
    have t2 : decide (4 < d) = false := by simp; omega
    have t3 : decide ((q : Int) ≤ d) = false := by simp; omega
    have t4 : decide ((12 : Int) < (m : Int)) = true := by simp; omega
    have t4' : decide (12 < m) = true := by simp; omega
    clear h
    go_enter Tryd.func18, Tryd.ntmps18
    go_wp2
    go_quiet ((go_at_call 32; exact quiet_eq (HP.out _ (by exact hcb'))))
    go_wp2
    go_ret
    exact ⟨rfl, below_drewN HB.out _⟩
  · have t1 : decide (d < 1) = false := by simp; omega
    have t2 : decide (4 < d) = false := by simp; omega
    have t3 : decide ((q : Int) ≤ d) = false := by simp; omega
    have t4 : decide ((12 : Int) < (m : Int)) = false := by simp; omega
    have t4' : decide (12 < m) = false := by simp; omega
    have t5 : ((nR : Int) != (m : Int)) = true := by rw [bne_iff_ne]; omega
    clear h h5
    go_enter Tryd.func18, Tryd.ntmps18
    go_wp2
    go_quiet ((go_at_call 32; exact quiet_eq (HP.out _ (by exact hcb'))))
    go_wp2
    go_ret
    exact ⟨rfl, below_drewN HB.out _⟩
  · have t1 : decide (d < 1) = false := by simp; omega
    have t2 : decide (4 < d) = false := by simp; omega
    have t3 : decide ((q : Int) ≤ d) = false := by simp; omega
    have t4 : decide ((12 : Int) < (m : Int)) = false := by simp; omega
    have t4' : decide (12 < m) = false := by simp; omega
    have t5 : ((nR : Int) != (m : Int)) = false := by rw [bne_eq_false_iff_eq]; omega
    have t6 : ((nF : Int) != d) = true := by rw [bne_iff_ne]; omega
    clear h h5 h6
    go_enter Tryd.func18, Tryd.ntmps18
    go_wp2
    go_quiet ((go_at_call 32; exact quiet_eq (HP.out _ (by exact hcb'))))
    go_wp2
    go_ret
    exact ⟨rfl, below_drewN HB.out _⟩
set_option maxRecDepth 100000 in
theorem ckl_any (V : Nat) (d : Nat) (hd : d ≤ 4) (A : Option Addr) (n c : Nat) (hn : n < 9223372036854775808) (w : World) (hcV : w.cell? ⟨V, 0, none⟩ = some (vi d)) :
    Calls Tryd.prog 43 (#[.slice A n c] ++ #[.pointer (some ⟨V, 0, none⟩)]) w fun e w' => e = .returned (.bool ((n : Int) != (d : Int) + 1)) ∧ ∃ k, w' = w.drewN k := by
  show Calls Tryd.prog 43 #[.slice A n c, .pointer (some ⟨V, 0, none⟩)] w _
  go_enter Tryd.func43, Tryd.ntmps43
  go_wp2
  go_ret
  exact ⟨rfl, 0, rfl⟩
set_option maxRecDepth 100000 in
set_option maxHeartbeats 8000000 in
theorem scheck_in (q S b : Nat) [NeZero q] (claim : Int) (hcl : I64 claim) (d : Nat) (hd1 : 1 ≤ d) (hd2 : d ≤ 4) (hdq : d < q) (AR AF B : Option Addr) (m cR cF cb : Nat) (hm : m ≤ 12) (ls : List (List Int)) (fs rs : List Int) (hl : ls.length = m) (hf : fs.length = d) (hr : rs.length = m) (hfI : ∀ x ∈ fs, I64 x) (hrI : ∀ x ∈ rs, I64 x) (w : World) (F : Fld w S b q) (hT : TB w AR ls) (hF : SL w AF fs) (hB : SL w B rs) :
    Calls Tryd.prog 18 #[.pointer (some ⟨b, 0, none⟩), vi claim, vi d, .agg #[.slice AR m cR, .slice AF d cF], .slice B m cb] w fun e w' => e = .returned (.bool (chkB q d claim ls fs rs)) ∧ Below w.heap.size w w' := by
  have hq2 := F.two
  have hqm := F.max
  have hcb := F.c0
  have hbl := block_lt_of_cell hcb
  have hb1 : Below w.heap.size w ((w.alloc (.cells #[vi d] 3)).alloc (.cells #[.slice AR m cR, .slice AF d cF] 29)) := ((Below.refl _ _).alloc (Nat.le_refl _) _).alloc (by simp) _
  have hcb' := (hb1.cell (p := ⟨b, 0, none⟩) hbl).trans hcb
  have hD := (Blk.new w 3 #[vi d]).alloc (.cells #[.slice AR m cR, .slice AF d cF] 29)
  have hS := Blk.new (w.alloc (.cells #[vi d] 3)) 29 #[.slice AR m cR, .slice AF d cF]
  rw [World.size_alloc] at hS
  have c0 := (Blk.cell hD 0).trans (show _ = some (vi d) from rfl)
  have s0 := (Blk.cell hS 0).trans (show _ = some (Value.slice AR m cR) from rfl)
  have s1 := (Blk.cell hS 1).trans (show _ = some (Value.slice AF d cF) from rfl)
  have HP := Lib.hid (fun W hc => p_any q b W hc)
  have HB1 := Lib.hid hb1
  have hK := callFunc_enters Tryd.func43 (by kernel_rfl) (by kernel_rfl)
  have HD := Lib.hid hD
  have HS := Lib.hid hS
  have HL := Lib.hid hl
  have HFL := Lib.hid hf
  have HRL := Lib.hid hr
  obtain ⟨bad, hbad⟩ : ∃ bad : Bool, (ls.any fun t => ((t.length : Int) != (d : Int) + 1)) = bad := ⟨_, rfl⟩
  have HCF := Lib.hid (fun W (hc : W.cell? ⟨w.heap.size, 0, none⟩ = some (vi d)) (hW : TB W AR ls) => containsfG 43 hK #[.pointer (some ⟨w.heap.size, 0, none⟩)] (fun n => ((n : Int) != (d : Int) + 1)) AR m cR ls hl (by omega) W (fun A n c k hn => ckl_any w.heap.size d hd2 A n c hn (W.drewN k) hc) hW bad hbad)
  have HT := Lib.hid (hT.below hb1)
  have HBD := Lib.hid hbad
  have t1 : decide ((d : Int) < 1) = false := by simp; omega
  have t1' : decide (d < 1) = false := by simp; omega
  have t2 : decide ((4 : Int) < (d : Int)) = false := by simp; omega
  have t2' : decide (4 < d) = false := by simp; omega
  have t3 : decide ((q : Int) ≤ (d : Int)) = false := by simp; omega
  have t3' : decide (q ≤ d) = false := by simp; omega
  have t4 : decide ((12 : Int) < (m : Int)) = false := by simp; omega
  have t4' : decide (12 < m) = false := by simp; omega
  have t5 : ((m : Int) != (m : Int)) = false := by simp
  have t6 : ((d : Int) != (d : Int)) = false := by simp
  clear hb1 hcb hD hS hl hf hr hbad hK hT
  go_enter Tryd.func18, Tryd.ntmps18
  go_wp2
  go_quiet ((go_at_call 32; exact quiet_eq (HP.out _ (by exact hcb'))))
  obtain ⟨W1, hW1⟩ : ∃ W1, W1 = ((w.alloc (.cells #[vi d] 3)).alloc (.cells #[.slice AR m cR, .slice AF d cF] 29)).drewN nq := ⟨_, rfl⟩
  have hb1 : Below w.heap.size w W1 := by rw [hW1]; exact below_drewN HB1.out _
  have c0' : W1.cell? ⟨w.heap.size, 0, none⟩ = some (vi d) := by rw [hW1]; exact c0
  have s0' : W1.cell? ⟨w.heap.size + 1, 0, none⟩ = some (.slice AR m cR) := by rw [hW1]; exact s0
  have s1' : W1.cell? ⟨w.heap.size + 1, 1, none⟩ = some (.slice AF d cF) := by rw [hW1]; exact s1
  have hT1 : TB W1 AR ls := by rw [hW1]; exact HT.out
  have hsz1 : W1.heap.size = w.heap.size + 2 := by rw [hW1]; show (World.alloc _ _).heap.size = _; simp
  rw [← hW1]
  clear hW1 c0 s0 s1 hcb' HB1 HT
  have HC1 := Lib.hid (HCF.out W1 c0' hT1)
  have HT1 := Lib.hid hT1
  have HB1 := Lib.hid hb1
  clear hb1 hT1
  go_wp2_with fail
  refine (HC1.out).mono ?_
  rintro _ _ ⟨rfl, k1, rfl⟩
  cases bad with
  | true =>
    have hres : chkB q d claim ls fs rs = false := by
      unfold chkB
      rw [decide_eq_false_iff_not]
      rintro ⟨h, _⟩
      have := HBD.out
      rw [List.any_eq_true] at this
      obtain ⟨t, ht, h2⟩ := this
      rw [bne_iff_ne] at h2
      exact h2 (by rw [h t ht]; simp)
    have HR := Lib.hid hres
    clear hres
    go_wp2
    go_ret
    exact ⟨ret_bool HR.out.symm, below_drewN HB1.out _⟩
  | false =>
    have hlen : ∀ l ∈ ls, l.length = d + 1 := by
      intro l hl
      have := HBD.out
      rw [List.any_eq_false] at this
      have h2 := this l hl
      simp at h2
      omega
    have HLEN := Lib.hid hlen
    have hb2 := below_drewN HB1.out k1
    have HT2 := Lib.hid (show TB (W1.drewN k1) AR ls from HT1.out)
    have hsz2 : (W1.drewN k1).heap.size = w.heap.size + 2 := hsz1
    have c2' : (W1.drewN k1).cell? ⟨w.heap.size, 0, none⟩ = some (vi d) := c0'
    have s2' : (W1.drewN k1).cell? ⟨w.heap.size + 1, 0, none⟩ = some (.slice AR m cR) := s0'
    have s3' : (W1.drewN k1).cell? ⟨w.heap.size + 1, 1, none⟩ = some (.slice AF d cF) := s1'
    generalize W1.drewN k1 = W2 at hb2 HT2 hsz2 c2' s2' s3'
    clear hlen HBD HC1 HT1 HB1 hsz1 c0' s0' s1'
    have HB2 := Lib.hid hb2
    have h20 : w.heap.size < W2.heap.size := by omega
    have h21 : w.heap.size + 1 < W2.heap.size := by omega
    clear hb2 hsz2
    go_wp2
    go_loopw [11, 58, 12] (fun v t _ wr => ∃ k : Nat, k ≤ d + 1 ∧ t = vi k ∧ Own wr W2.heap.size v (upI k) ∧ Below W2.heap.size W2 wr) (fun _ t _ _ => d + 1 - (intOf t).toNat)
    case atStart => exact ⟨0, by omega, rfl, World.ownsRow_nil _ _ _ _, Below.refl _ _⟩
    case round =>
      obtain ⟨k, hk, rfl, ho, hb⟩ := hrel
      by_cases hkd : k < d + 1
      · have k1 : (0 : Int) ≤ (k : Int) := by omega
        have k2 : (k : Int) < (d : Int) + 1 := by omega
        have hlk : (upI k).length < 17592186044416 := by rw [upI_len]; omega
        have HLK := Lib.hid hlk
        have hsu := upI_succ k
        have HSU := Lib.hid hsu
        clear hlk hsu
        go_wp2_with (at_builtin; refine wpList_app1 wr (k : Int) rfl _ _ rfl W2.heap.size _ _ rfl rfl ho HLK.out hb.size ?_; intro v' w2 hg)
        have ho2 := hg.own
        rw [← HSU.out] at ho2
        exact ⟨⟨k + 1, by omega, by go_num, ho2, hg.below hb ho (Nat.le_refl _) hb.size⟩, by simp [intOf]; omega⟩
      · have ek : k = d + 1 := by omega
        rw [ek] at ho
        have t7 : ¬ (k : Int) < (d : Int) + 1 := by omega
        obtain ⟨AX, nX, cX, rfl, hlX, _, _, hsX⟩ := ho.shapeN
        have hnX : nX = d + 1 := by rw [← hlX, upI_len]
        subst hnX
        have hbw := HB2.out.trans (hb.mono HB2.out.size)
        have hcb3 := (hbw.cell (p := ⟨b, 0, none⟩) hbl).trans F.c0
        have HOF := Lib.hid (of_any q (by omega) hqm b claim hcl wr hcb3)
        have HSX := Lib.hid hsX
        have HBW := Lib.hid hbw
        have HB3 := Lib.hid hb
        have c3' := (hb.cell (p := ⟨w.heap.size, 0, none⟩) h20).trans c2'
        have s4' := (hb.cell (p := ⟨w.heap.size + 1, 0, none⟩) h21).trans s2'
        have s5' := (hb.cell (p := ⟨w.heap.size + 1, 1, none⟩) h21).trans s3'
        have HT3 := Lib.hid (HT2.out.below hb)
        have hx0 := Nat.lt_of_lt_of_le h20 hb.size
        have hx1 := Nat.lt_of_lt_of_le h21 hb.size
        clear ek ho hlX hsX hb hbw hcb3 c2' s2' s3'
        go_wp2_with fail
        refine (HOF.out).mono ?_
        rintro _ _ ⟨rfl, rfl⟩
        obtain ⟨w3, hw3⟩ : ∃ w3, w3 = wr := ⟨_, rfl⟩
        subst hw3
        have hcl0 : claim % (q : Int) = fv (clK d claim ls rs 0 : Fin q) := by show _ = fv (el q claim); rw [fv_el]
        rw [hcl0]
        clear hcl0
        go_wp2
        go_loopw [1, 72, 13, 14, 15, 16] (fun c t _ _ _ _ wr' => ∃ k : Nat, k ≤ m ∧ t = vi k ∧ c = vi (fv (clK d claim ls rs k : Fin q)) ∧ (∀ i, i < k → SumAt (q := q) d claim ls rs i) ∧ Below w3.heap.size w3 wr') (fun _ t _ _ _ _ _ => m - (intOf t).toNat)
        case atStart => exact ⟨0, by omega, rfl, rfl, fun i hi => absurd hi (by omega), Below.refl _ _⟩
        case round =>
          obtain ⟨i, hi, rfl, rfl, hall, hb⟩ := hrel
          have HALL := Lib.hid hall
          clear hall
          by_cases him : i < m
          · have hil : i < ls.length := by rw [HL.out]; exact him
            have hir : i < rs.length := by rw [HRL.out]; exact him
            obtain ⟨ad, A1, n1, c1, rfl, hbd, hcc, hl1, hn1, hs1, hi1⟩ := HT3.out i hil
            have en1 : n1 = d + 1 := by rw [← hl1]; exact HLEN.out _ (List.getElem_mem hil)
            subst en1
            have hccr := (hb.cell (p := ad.add i) hbd).trans hcc
            obtain ⟨ae, rfl, hae, hce0⟩ := hs1.at_ (k := 0) (by rw [hl1]; omega)
            obtain ⟨ae', e2, _, hce1⟩ := hs1.at_ (k := 1) (by rw [hl1]; omega)
            injection e2 with e2
            subst e2
            have hce0' := (hb.cell (p := ae.add 0) (by rw [block_of_add]; exact hae)).trans hce0
            have hce1' := (hb.cell (p := ae.add 1) (by rw [block_of_add]; exact hae)).trans hce1
            rw [show ae.add 0 = ae by simp [Addr.add]] at hce0'
            have hi0 := hi1 _ (List.getElem_mem (show 0 < ls[i].length by rw [hl1]; omega))
            have hi01 := hi1 _ (List.getElem_mem (show 1 < ls[i].length by rw [hl1]; omega))
            have hsumat : SumAt (q := q) d claim ls rs i ↔ el q (ls[i][0]'(by rw [hl1]; omega)) + el q (ls[i][1]'(by rw [hl1]; omega)) = (clK d claim ls rs i : Fin q) := by
              unfold SumAt
              rw [List.getD_eq_getElem?_getD (l := ls), List.getElem?_eq_getElem hil, Option.getD_some, List.getD_eq_getElem?_getD, List.getElem?_eq_getElem (show 0 < ls[i].length by rw [hl1]; omega), List.getD_eq_getElem?_getD, List.getElem?_eq_getElem (show 1 < ls[i].length by rw [hl1]; omega)]
              rfl
            obtain ⟨x0, hx0'⟩ : ∃ x, x = ls[i][0]'(by rw [hl1]; omega) := ⟨_, rfl⟩
            obtain ⟨x1, hx1'⟩ : ∃ x, x = ls[i][1]'(by rw [hl1]; omega) := ⟨_, rfl⟩
            rw [← hx0'] at hce0' hi0 hsumat
            rw [← hx1'] at hce1' hi01 hsumat
            have hcbr := (((HBW.out.trans (hb.mono HBW.out.size)).cell (p := ⟨b, 0, none⟩) hbl).trans F.c0)
            have HADD := Lib.hid (fun W hc => add_any q hqm b x0 x1 hi0 hi01 W hc)
            obtain ⟨C, hC⟩ : ∃ C : Fin q, C = clK d claim ls rs i := ⟨_, rfl⟩
            rw [← hC] at hsumat ⊢
            have i1 : (0 : Int) ≤ (i : Int) := by omega
            have i2 : (i : Int) < (m : Int) := by omega
            have hce1'' : wr.cell? ⟨ae.block, ae.off + 1, none⟩ = some (vi x1) := by
              have : ae.add 1 = ⟨ae.block, ae.off + 1, none⟩ := by simp [Addr.add]
              rw [← this]; exact hce1'
            have d1 : (1 : Int) < (d : Int) + 1 := by omega
            have d1' : 1 < d + 1 := by omega
            have HB := Lib.hid hb
            have HSA := Lib.hid hsumat
            have HC := Lib.hid hC
            have HLI := Lib.hid hl1
            have HSI := Lib.hid hs1
            have HII := Lib.hid hi1
            clear hb hsumat hC hl1 hs1 hi1 hx0' hx1' hce0 hce1 hcc hce1'
            by_cases hsum : el q x0 + el q x1 = C
            · have t8 : (fv (el q x0 + el q x1) != fv C) = false := by rw [hsum]; simp
              have HSUM := Lib.hid hsum
              clear hsum
              go_wp2
              go_quiet ((go_at_call 44; exact Calls.quiet_of (HADD.out _ (by exact hcbr))))
              go_wp2_with fail
              have hbN := below_drewN HB.out nq
              have hbw0 := HBW.out.trans (hbN.mono HBW.out.size)
              have hupI : ∀ x ∈ upI (d + 1), I64 x := by
                intro x hx
                obtain ⟨j, hj, rfl⟩ := List.mem_map.1 hx
                have := List.mem_range.1 hj
                constructor <;> omega
              have HFT := Lib.hid (pfit_any q S b AX (some ae) (d + 1) cX c1 (upI (d + 1)) ls[i] (upI_len _) HLI.out hupI HII.out (by omega) (upI_nodup (q := q) (by omega)) (wr.drewN nq) (F.below hbw0 F.le) (HSX.out.below hbN) (HSI.out.below hbN))
              obtain ⟨bd, rfl, hbdl, hcr⟩ := hB.at_ hir
              have hri := hrI _ (List.getElem_mem hir)
              have hgr : rs.getD i 0 = rs[i] := by rw [List.getD_eq_getElem?_getD, List.getElem?_eq_getElem hir]; rfl
              have hgl : ls.getD i [] = ls[i] := by rw [List.getD_eq_getElem?_getD, List.getElem?_eq_getElem hil]; rfl
              have HBN := Lib.hid hbN
              have HBW0 := Lib.hid hbw0
              obtain ⟨r, hrr⟩ : ∃ r, r = rs[i] := ⟨_, rfl⟩
              rw [← hrr] at hcr hri hgr
              have HGR := Lib.hid hgr
              have HGL := Lib.hid hgl
              clear hbN hbw0 hupI hgr hgl hrr hcbr hce0' hce1'' hccr hbd
              refine (HFT.out).mono ?_
              rintro _ w5 ⟨o, v5, hfit, rfl, ho5, hb5⟩
              obtain ⟨A5, n5, c5, rfl, hl5, hc5, _, hs5⟩ := ho5.shapeN
              have hol := hfit.len
              rw [show (els q (upI (d + 1))).length = d + 1 by simp [els, upI]] at hol
              have hn5 : n5 ≤ d + 1 := by rw [← hl5]; simpa [fvs] using hol
              have hbw5 := HBW0.out.trans (hb5.mono HBW0.out.size)
              have hcr5 := (hbw5.cell (p := bd.add i) (by rw [block_of_add]; exact hbdl)).trans hcr
              have hev := eval_nP q S b A5 n5 c5 (fvs o) hl5 (by intro x hx; obtain ⟨y, _, rfl⟩ := List.mem_map.1 hx; exact i64_fv _ hqm) (by omega) r hri w5 (F.below hbw5 F.le) hs5
              rw [els_fvs] at hev
              have hnx : ev o (el q r) = (clK d claim ls rs (i + 1) : Fin q) := by
                show _ = ev (fitP (els q (upI (d + 1))) (els q (ls.getD i []))) (el q (rs.getD i 0))
                rw [HGR.out, HGL.out, fitP_eq F.prime (upI_nodup (by omega)) (by rw [show (els q (upI (d + 1))).length = (els q (upI (d + 1))).length from rfl]; exact hfit)]
              rw [hnx] at hev
              have HEV := Lib.hid hev
              have HB5 := Lib.hid (HBN.out.trans (hb5.mono HBN.out.size))
              clear hfit hl5 hs5 hol hev hnx ho5 hb5 hbw5 hcr
              go_wp2_with fail
              refine (HEV.out).mono ?_
              rintro _ w6 ⟨rfl, hb6⟩
              have hb36 := HB5.out.trans (hb6.mono HB5.out.size)
              go_wp2
              go_roundw
              case rel => exact ⟨i + 1, by omega, by go_num, rfl, fun j hj => by
                by_cases e : j = i
                · subst e; rw [HSA.out]; exact HSUM.out
                · exact HALL.out j (by omega), hb36⟩
              case measure => simp [intOf]; omega
            · have t8 : (fv (el q x0 + el q x1) != fv C) = true := by rw [bne_iff_ne]; exact fun e => hsum (fv_inj e)
              have hres : chkB q d claim ls fs rs = false := by
                unfold chkB
                rw [decide_eq_false_iff_not]
                rintro ⟨_, h, _⟩
                exact hsum (HSA.out.1 (h i hil))
              have HR := Lib.hid hres
              clear hsum hres
              go_wp2
              go_quiet ((go_at_call 44; exact Calls.quiet_of (HADD.out _ (by exact hcbr))))
              go_wp2
              go_ret
              exact ⟨ret_bool HR.out.symm, below_drewN (HBW.out.trans (HB.out.mono HBW.out.size)) _⟩
          · have ei : i = m := by omega
            have t8 : ¬ (i : Int) < (m : Int) := by omega
            subst ei
            have s1r := (hb.cell (p := ⟨w.heap.size + 1, 1, none⟩) hx1).trans s5'
            have hSF := hF.below (HBW.out.trans (hb.mono HBW.out.size))
            have HBR := Lib.hid (HBW.out.trans (hb.mono HBW.out.size))
            have HSF := Lib.hid hSF
            obtain ⟨C, hC⟩ : ∃ C : Fin q, C = clK d claim ls rs i := ⟨_, rfl⟩
            rw [← hC]
            have HC := Lib.hid hC
            clear hb hSF hC s4' s5' c3'
            obtain ⟨w7, hw7⟩ : ∃ w7, w7 = wr := ⟨_, rfl⟩
            subst hw7
            go_wp2
            go_loopw [17, 107, 19] (fun c t _ wr' => ∃ k n : Nat, k ≤ d ∧ t = vi k ∧ c = vi (fv (prodE (fs.take k) : Fin q)) ∧ wr' = w7.drewN n) (fun _ t _ _ => d - (intOf t).toNat)
            case atStart => exact ⟨0, 0, by omega, rfl, by show _ = vi (fv (1 : Fin q)); rw [fv_one hq2], rfl⟩
            case round =>
              obtain ⟨k, n, hk, rfl, rfl, rfl⟩ := hrel
              by_cases hkd' : k < d
              · have hkf : k < fs.length := by rw [HFL.out]; exact hkd'
                obtain ⟨ag, rfl, hag, hcg⟩ := HSF.out.at_ hkf
                have hfk := hfI _ (List.getElem_mem hkf)
                have hcbr := (HBR.out.cell (p := ⟨b, 0, none⟩) hbl).trans F.c0
                have hpr : prodE (fs.take (k + 1)) = (prodE (fs.take k) : Fin q) * el q fs[k] := by
                  rw [List.take_succ_eq_append_getElem hkf]; unfold prodE; rw [List.foldl_append]; rfl
                obtain ⟨y, hy⟩ : ∃ y, y = fs[k] := ⟨_, rfl⟩
                rw [← hy] at hcg hfk hpr
                obtain ⟨X, hX⟩ : ∃ X : Fin q, X = prodE (fs.take k) := ⟨_, rfl⟩
                rw [← hX] at hpr ⊢
                have hml := mul_any q hqm b (fv X) y (i64_fv _ hqm) hfk (w7.drewN n) (by exact hcbr)
                rw [el_fv, ← hpr] at hml
                have HMUL := Lib.hid hml
                clear hml hX
                have hcg' : (w7.drewN n).cell? (ag.add k) = some (vi y) := hcg
                have k1 : (0 : Int) ≤ (k : Int) := by omega
                have k2 : (k : Int) < (d : Int) := by omega
                clear hy hpr hcbr
                go_wp2_with fail
                refine (HMUL.out).mono ?_
                rintro _ _ ⟨rfl, n2, rfl⟩
                go_wp2
                go_roundw
                case rel => exact ⟨k + 1, n + n2, by omega, by go_num, rfl, rfl⟩
                case measure => simp [intOf]; omega
              · have ek : k = d := by omega
                have t9 : ¬ (k : Int) < (d : Int) := by omega
                have hres : chkB q d claim ls fs rs = (fv (prodE (fs.take k) : Fin q) == fv C) := by
                  rw [ek, List.take_of_length_le (by rw [HFL.out]; exact Nat.le_refl _)]
                  by_cases he : (prodE fs : Fin q) = C
                  · rw [chkB_true ⟨HLEN.out, by rw [HL.out]; exact HALL.out, by rw [HL.out, ← HC.out]; exact he⟩, he]
                    simp
                  · rw [chkB_false fun h => he (by have := h.2.2; rw [HL.out, ← HC.out] at this; exact this)]
                    symm
                    rw [beq_eq_false_iff_ne]
                    exact fun e => he (fv_inj e)
                have HRES := Lib.hid hres
                clear hres ek
                generalize fv (prodE (fs.take k) : Fin q) = Y at HRES
                go_wp2
                go_ret
                exact ⟨ret_bool HRES.out.symm, below_drewN HBR.out _⟩
end Go.Proofs.YtgmkcmahbefcoaaDoor

/- Plain: what sums.Make tells of a true sum is taken by sums.Check. -/
set_option linter.unusedVariables false
namespace Go.Proofs.YtgmkcmahbefcoaaDoor
open Go.RowKit Zp

section
variable {q : Nat} [NeZero q]
/-- the polynomial through a round's values is what the tables come to -/
theorem fit_round (hp : IsPrime q) {d h : Nat} (hdq : d < q) (ts : List (List Int)) (l : List Int) (hl : l = fvs (roundL q h ts d)) (r : Fin q) :
    ev (fitP (els q (upI (d + 1))) (els q l)) r = totP d h (fixT h (tabOf q ts) r) := by
  obtain ⟨Q, hQl, hQ⟩ := sum_poly d h (fun i j => co (tabOf q ts j) i) (fun i j => co (tabOf q ts j) (i + h))
  have hQ' : ∀ r, ev Q r = totP d h (fixT h (tabOf q ts) r) := fun r => by rw [hQ r, tot_fix]
  have hn : (els q (upI (d + 1))).Nodup := upI_nodup (by omega)
  have hxl : (els q (upI (d + 1))).length = d + 1 := by simp [els, upI]
  have hf : Fitted (els q (upI (d + 1))) (els q l) (els q (upI (d + 1))).length (trimL Q) := by
    refine ⟨trimL_trim Q, ?_, fun j hj => ?_⟩
    · rw [hxl]; exact Nat.le_trans (trimL_length_le Q) hQl
    · rw [if_pos hj, ev_trim, hQ']
      rw [hxl] at hj
      have e1 : co (els q (upI (d + 1))) j = el q (j : Int) := by
        rw [co_of_lt (by rw [hxl]; exact hj)]
        simp [els, upI]
      have e2 : co (els q l) j = totP d h (fixT h (tabOf q ts) (el q (j : Int))) := by
        rw [hl, els_fvs, co_of_lt (by rw [roundL_length]; exact hj)]
        simp [roundL]
      rw [e1, e2]
  rw [fitP_eq hp hn hf, ev_trim, hQ']
/-- what is claimed is what the tables come to -/
theorem cl_true (hp : IsPrime q) {d v : Nat} (hdq : d < q) (ts : List (List Int)) (rs : List Int) (claim : Int) (hc : el q claim = totP d (2 ^ v) (tabOf q ts)) :
    ∀ k, k ≤ v → (clK d claim (rdL q d v ts rs v) rs k : Fin q) = totP d (2 ^ (v - k)) (tabOf q (ftK q d v ts rs k)) := by
  intro k
  induction k with
  | zero => intro _; exact hc
  | succ k ih =>
    intro hk
    have hg : (rdL q d v ts rs v).getD k [] = fvs (rdK q d v ts rs k) := by
      unfold rdL
      rw [List.getD_eq_getElem?_getD, List.getElem?_map, List.getElem?_range (by omega)]
      rfl
    show ev (fitP (els q (upI (d + 1))) (els q ((rdL q d v ts rs v).getD k []))) (el q (rs.getD k 0)) = _
    rw [hg, fit_round (h := 2 ^ (v - 1 - k)) hp hdq (ftK q d v ts rs k) (fvs (rdK q d v ts rs k)) rfl]
    show _ = totP d (2 ^ (v - (k + 1))) (tabOf q (fixI q (2 ^ (v - 1 - k)) (ftK q d v ts rs k) d (el q (rs.getD k 0))))
    rw [show v - (k + 1) = v - 1 - k by omega, fixI_tot]
theorem sum_true (hp : IsPrime q) {d v : Nat} (hd1 : 1 ≤ d) (hdq : d < q) (ts : List (List Int)) (rs : List Int) (claim : Int) (hc : el q claim = totP d (2 ^ v) (tabOf q ts)) :
    chkB q d claim (rdL q d v ts rs v) ((List.range d).map fun j => fv (finF q d v ts rs j)) rs = true := by
  have hcl := cl_true hp hdq ts rs claim hc
  have hlen : (rdL q d v ts rs v).length = v := by simp [rdL]
  refine chkB_true ⟨fun l hl => ?_, fun i hi => ?_, ?_⟩
  · obtain ⟨i, _, rfl⟩ := List.mem_map.1 hl
    rw [List.length_map, rdK, roundL_length]
  · rw [hlen] at hi
    unfold SumAt
    rw [hcl i (by omega)]
    have hg : (rdL q d v ts rs v).getD i [] = fvs (rdK q d v ts rs i) := by
      unfold rdL
      rw [List.getD_eq_getElem?_getD, List.getElem?_map, List.getElem?_range (by omega)]
      rfl
    rw [hg, show v - i = (v - 1 - i) + 1 by omega, Nat.pow_succ', tot_round]
    have hx : ∀ j, j < d + 1 → el q ((fvs (rdK q d v ts rs i)).getD j 0) = totP d (2 ^ (v - 1 - i)) (fixT (2 ^ (v - 1 - i)) (tabOf q (ftK q d v ts rs i)) (el q (j : Int))) := by
      intro j hj
      unfold rdK
      rw [List.getD_eq_getElem?_getD]
      unfold fvs
      rw [List.getElem?_map]
      unfold roundL
      rw [List.getElem?_map, List.getElem?_range hj]
      simp only [Option.map_some, Option.getD_some]
      rw [el_fv]
    rw [hx 0 (by omega), hx 1 (by omega)]
    rw [show el q ((0 : Nat) : Int) = (0 : Fin q) from el_zero, show el q ((1 : Nat) : Int) = (1 : Fin q) from el_one]
  · rw [hlen, hcl v (Nat.le_refl _), Nat.sub_self]
    have hp1 : ∀ k, (prodE ((List.range k).map fun j => fv (finF q d v ts rs j)) : Fin q) = prodT k fun j => finF q d v ts rs j := by
      intro k
      induction k with
      | zero => rfl
      | succ k ih =>
        rw [List.range_succ, List.map_append]
        unfold prodE at ih ⊢
        rw [List.foldl_append, ih]
        show _ * el q (fv (finF q d v ts rs k)) = _
        rw [el_fv]; rfl
    rw [hp1]
    unfold totP
    rw [show (2 : Nat) ^ 0 = 1 from rfl]
    show _ = sumT 0 _ + _
    rw [show (sumT 0 fun i => prodT d fun j => co (tabOf q (ftK q d v ts rs v) j) i) = (0 : Fin q) from rfl]
    show _ = 0 + prodT d fun j => co (tabOf q (ftK q d v ts rs v) j) 0
    unfold finF
    grind
theorem tab_ftK (d v : Nat) (ts : List (List Int)) (rs : List Int) (k : Nat) {j : Nat} (hj : j < d) : tabOf q (ftK q d v ts rs (k + 1)) j = fixL (2 ^ (v - 1 - k)) (tabOf q (ftK q d v ts rs k) j) (el q (rs.getD k 0)) := by
  show tabOf q (fixI q (2 ^ (v - 1 - k)) (ftK q d v ts rs k) d (el q (rs.getD k 0))) j = _
  unfold tabOf fixI
  rw [List.getD_eq_getElem?_getD, List.getElem?_map, List.getElem?_range hj]
  simp only [Option.map_some, Option.getD_some]
  rw [els_fvs]
  rfl
theorem ext_ftK (d v : Nat) (ts : List (List Int)) (hd : ts.length = d) (hv : ∀ t ∈ ts, t.length = 2 ^ v) (rs : List Int) (hr : rs.length = v) {j : Nat} (hj : j < d) :
    ∀ k, k ≤ v → extL (tabOf q ts j) (els q rs) = extL (tabOf q (ftK q d v ts rs k) j) (els q (rs.drop k)) := by
  intro k
  induction k with
  | zero => intro _; rfl
  | succ k ih =>
    intro hk
    have hkr : k < rs.length := by omega
    have hlen : (tabOf q (ftK q d v ts rs k) j).length = 2 ^ (v - k) := by
      have hjl : j < (ftK q d v ts rs k).length := by rw [ftK_length q d v ts rs hd]; exact hj
      unfold tabOf els
      rw [List.length_map, List.getD_eq_getElem?_getD, List.getElem?_eq_getElem hjl, Option.getD_some]
      exact ftK_len q d v ts rs hv k (by omega) _ (List.getElem_mem hjl)
    rw [ih (by omega), List.drop_eq_getElem_cons hkr]
    show extL (fixL ((tabOf q (ftK q d v ts rs k) j).length / 2) (tabOf q (ftK q d v ts rs k) j) (el q rs[k])) (els q (rs.drop (k + 1))) = _
    rw [hlen, tab_ftK d v ts rs k hj, show rs.getD k 0 = rs[k] by rw [List.getD_eq_getElem?_getD, List.getElem?_eq_getElem hkr]; rfl, show v - k = (v - 1 - k) + 1 by omega, Nat.pow_succ, Nat.mul_div_cancel _ (by omega)]
theorem finF_ext (d v : Nat) (ts : List (List Int)) (hd : ts.length = d) (hv : ∀ t ∈ ts, t.length = 2 ^ v) (rs : List Int) (hr : rs.length = v) {j : Nat} (hj : j < d) : co (extL (tabOf q ts j) (els q rs)) 0 = finF q d v ts rs j := by
  rw [ext_ftK d v ts hd hv rs hr hj v (Nat.le_refl _), List.drop_of_length_le (by omega)]
  rfl
end
end Go.Proofs.YtgmkcmahbefcoaaDoor

/- The walk of the law SumsMakes: what is shown; the law. -/
set_option linter.unusedVariables false
namespace Go.Proofs.YtgmkcmahbefcoaaDoor
open Go.RowKit Zp

theorem rdL_get (q d v : Nat) [NeZero q] (ts : List (List Int)) (rs : List Int) (k : Nat) (hk : k < v) (h : k < (rdL q d v ts rs v).length) : (rdL q d v ts rs v)[k] = fvs (rdK q d v ts rs k) := by
  simp [rdL]
theorem rdL_len (q d v : Nat) [NeZero q] (ts : List (List Int)) (rs : List Int) : (rdL q d v ts rs v).length = v := by simp [rdL]
theorem finL_len (q d v : Nat) [NeZero q] (ts : List (List Int)) (rs : List Int) : ((List.range d).map fun j => fv (finF q d v ts rs j)).length = d := by simp
theorem finL_get (q d v : Nat) [NeZero q] (ts : List (List Int)) (rs : List Int) (k : Nat) (hk : k < d) (h : k < ((List.range d).map fun j => fv (finF q d v ts rs j)).length) : ((List.range d).map fun j => fv (finF q d v ts rs j))[k] = fv (finF q d v ts rs k) := by
  simp
set_option maxRecDepth 100000 in
set_option maxHeartbeats 4000000 in
theorem smk_yes (w : World) (q : Nat) [NeZero q] (h3 : 3 ≤ q) (hqm : q ≤ 2147483647) (hpr : IsPrime q) (A : Option Addr) (d c : Nat) (ts : List (List Int)) (ha : ArgM w A d c ts) (hd16 : d ≤ 5864062014805) (hlen : ∀ t ∈ ts, t.length ≤ 17592186044416) (hi : ∀ t ∈ ts, ∀ x ∈ t, I64 x) (hd1 : 1 ≤ d) (hd4 : d ≤ 4) (hdq : d < q) (v : Nat) (hv : Over ts v)
    (B : Option Addr) (cb : Nat) (rs : List Int) (hb : ArgS w B v cb rs) (hT : Typed w) :
    Calls Tryd.prog 3 #[vi q, .slice A d c, .slice B v cb] w fun e w' => SaysW (.bool true) w e w' := by
  have HF := Lib.hid (sfield_yes q h3 hqm hpr w hT)
  have HC := Lib.hid (fun W hW => copied_any A d c ts ha.len hd16 hlen W hW)
  have HLA := Lib.hid ha.len
  have hn0 : (ts.getD 0 []).length = 2 ^ v := by
    rw [List.getD_eq_getElem?_getD, List.getElem?_eq_getElem (by rw [ha.len]; omega), Option.getD_some]
    exact (hv _ (List.getElem_mem _)).2
  have hv12 : v ≤ 12 := (hv _ (List.getElem_mem (show 0 < ts.length by rw [ha.len]; omega))).1
  have hvs : varsI (2 ^ v) = (v : Int) := varsI_of ⟨hv12, rfl⟩
  have hov : ∀ W, TB W A ts → Calls Tryd.prog 11 #[.slice A d c] W fun e w' => e = .returned (vi v) ∧ ∃ k, w' = W.drewN k := fun W hW =>
    rover_all A d c ts ha.len hd1 hd4 _ hn0 v (fun _ => hvs.symm) (fun ⟨j, hj, hne⟩ => absurd (by
      rw [List.getD_eq_getElem?_getD, List.getElem?_eq_getElem (by rw [ha.len]; omega), Option.getD_some]
      exact (hv _ (List.getElem_mem _)).2) hne) W hW
  have HOV := Lib.hid hov
  have he0 := fun W hg => error_any 0 0 W hg
  rw [errV_zero, show ((0 : Int) == 0) = true from rfl] at he0
  have HE0 := Lib.hid he0
  have hlv : ∀ t ∈ ts, t.length = 2 ^ v := fun t ht => (hv t ht).2
  have HMK := Lib.hid (fun S b A2 c2 W (F : Fld W S b q) hW hB => smake_any q S b A2 d c2 ts ha.len hd1 hd4 v hv hdq B cb rs hb.len hb.i64 W F hW hB)
  have HFL := Lib.hid (ftK_length q d v ts rs ha.len)
  have HFN := Lib.hid (ftK_len q d v ts rs hlv)
  have h2p : ∀ k, k < v → 2 ^ (v - k) = 2 * 2 ^ (v - 1 - k) ∧ 2 ^ (v - k) ≤ 65536 := fun k hk => by
    refine ⟨?_, Nat.le_trans (Nat.pow_le_pow_right (n := 2) (by omega) (show v - k ≤ 12 by omega)) (by decide)⟩
    rw [show v - k = (v - 1 - k) + 1 by omega, Nat.pow_succ']
  have HRR := Lib.hid (fun k (hk : k < v) A2 c2 W hW => rround_any q (by omega) hqm A2 d c2 (ftK q d v ts rs k) (ftK_length q d v ts rs ha.len k) hd1 hd4 (2 ^ (v - k)) (2 ^ (v - 1 - k)) (ftK_len q d v ts rs hlv k (by omega)) (h2p k hk).1 (h2p k hk).2 W hW)
  have HRF := Lib.hid (fun k (hk : k < v) A2 c2 r (hr : I64 r) W hW => rfixed_any q hqm A2 d c2 (ftK q d v ts rs k) (ftK_length q d v ts rs ha.len k) hd4 (2 ^ (v - k)) (2 ^ (v - 1 - k)) (ftK_len q d v ts rs hlv k (by omega)) (h2p k hk).1 (h2p k hk).2 r hr W hW)
  have HRO := Lib.hid (fun n (hn : I64 n) W => rof_any q hqm n hn W)
  have HFI := Lib.hid (fun k => (fixI_i64 q (2 ^ (v - 1 - k)) hqm (ftK q d v ts rs k) d (el q (rs.getD k 0))))
  have HLB := Lib.hid hb.len
  have HIB := Lib.hid hb.i64
  have HSB := Lib.hid hb.sl
  have HTA := Lib.hid ha.tb
  have v0 : (0 : Int) ≤ (v : Int) := by omega
  have t1 : decide ((v : Int) < 0) = false := by simp
  have t2 : ((v : Int) != (v : Int)) = false := by simp
  have t3 : decide ((q : Int) ≤ (d : Int)) = false := by simp; omega
  have t4 : ((d : Int) != (d : Int)) = false := by simp
  clear hov he0 hn0 hvs hlv h2p ha hb
  go_enter Tryd.func3, Tryd.ntmps3
  go_wp2_with fail
  refine (HF.out).mono ?_
  rintro e w1 ⟨b, rfl, F1, hb1⟩
  have hs1 := HTA.out.below hb1
  go_wp2_with fail
  refine (HC.out _ hs1).mono ?_
  rintro e w2 ⟨v2, us, rfl, hownR, hrows, hb2⟩
  obtain ⟨A2, n2, c2, rfl, hl2, _⟩ := ownR_shape hownR
  have hl2' : d = n2 := by have h := hrows.1; rw [HLA.out, hl2] at h; exact h.symm
  subst hl2'
  have tb2 := tb_own hownR hrows hi
  have F2 := F1.below hb2 F1.le
  have hs2 := hs1.below hb2
  have bw2 := hb1.trans (hb2.mono hb1.size)
  have sb2 := HSB.out.below bw2
  clear hownR hrows hl2 F1 hs1 hb1 hb2
  go_wp2_with fail
  refine (HMK.out _ b A2 c2 _ F2 tb2 sb2).mono ?_
  rintro e w2b ⟨AR, AF, rfl, tbR, slF, hb2b⟩
  obtain ⟨w3, hw3⟩ : ∃ w3, w3 = w2b.alloc (.cells #[.slice AR v v, .slice AF d d] 29) := ⟨_, rfl⟩
  have hB3 : Blk w3 w2b.heap.size 29 #[.slice AR v v, .slice AF d d] := by rw [hw3]; exact Blk.new _ _ _
  have hb23 : Below w2b.heap.size w2b w3 := by rw [hw3]; exact (Below.refl _ _).alloc (Nat.le_refl _) _
  have hb3 := hb2b.trans (hb23.mono hb2b.size)
  have tb3 := tb2.below hb3
  have hs3 := hs2.below hb3
  have tbR3 := tbR.below hb23
  have slF3 := slF.below hb23
  have bw3 := bw2.trans (hb3.mono bw2.size)
  have HW3 := Lib.hid hw3
  clear tb2 hs2 bw2 F2 hb2b hb23 hb3 hw3 tbR slF sb2
  go_wp2_with fail
  rw [← HW3.out]
  refine (HOV.out _ hs3).mono ?_
  rintro e w4 ⟨rfl, hk4⟩
  have hb4 : Below w3.heap.size w3 w4 := below_draws hk4
  have bw4 := bw3.trans (hb4.mono bw3.size)
  have hB4 := hB3.below hb4 hB3.lt
  have tb4 := tb3.below hb4
  have hs4 := hs3.below hb4
  have tbR4 := tbR3.below hb4
  have slF4 := slF3.below hb4
  clear hs3 tb3 hk4 hB3 tbR3 slF3 hb4 bw3
  go_wp2_with fail
  refine (HE0.out _ (hT.below bw4)).mono ?_
  rintro e w5 ⟨rfl, hb5⟩
  have hB5 := hB4.below hb5 hB4.lt
  have hl5 := hB5.lt
  have HBW := Lib.hid (bw4.trans (hb5.mono bw4.size))
  have HTB := Lib.hid (tb4.below hb5)
  have HTS := Lib.hid (hs4.below hb5)
  have HTR := Lib.hid (tbR4.below hb5)
  have HSF := Lib.hid (slF4.below hb5)
  have c0 := (Blk.cell hB5 0).trans (show _ = some (Value.slice AR v v) from rfl)
  have c1 := (Blk.cell hB5 1).trans (show _ = some (Value.slice AF d d) from rfl)
  clear hB4 hB5 hb5 tb4 hs4 tbR4 slF4 bw4
  obtain ⟨o, ho⟩ : ∃ o, o = w2b.heap.size := ⟨_, rfl⟩
  rw [← ho] at c0 c1 hl5 ⊢
  clear ho HW3
  go_wp2
  go_loopw [15, 16, 17, 18] (fun T i _ _ wr => ∃ (k : Nat) (A' : Option Addr) (c' : Nat), k ≤ v ∧ i = vi k ∧ T = .slice A' d c' ∧ TB wr A' (ftK q d v ts rs k) ∧ Below w5.heap.size w5 wr) (fun _ i _ _ _ => v - (intOf i).toNat)
  case atStart => exact ⟨0, A, c, Nat.zero_le _, rfl, rfl, HTS.out, Below.refl _ _⟩
  case round =>
    obtain ⟨k, A', c', hk, rfl, rfl, htb, hbr⟩ := hrel
    by_cases hkv : k < v
    · have hrr := HRR.out k hkv A' c' wr htb
      have hrf := HRF.out k hkv A' c'
      have hsb := HSB.out.below (HBW.out.trans (hbr.mono HBW.out.size))
      obtain ⟨ae, rfl, hae, hce⟩ := hsb.at_ (k := k) (by rw [HLB.out]; exact hkv)
      have hrI := HIB.out _ (List.getElem_mem (show k < rs.length by rw [HLB.out]; exact hkv))
      have hgr : rs.getD k 0 = rs[k]'(by rw [HLB.out]; exact hkv) := by
        rw [List.getD_eq_getElem?_getD, List.getElem?_eq_getElem (by rw [HLB.out]; exact hkv), Option.getD_some]
      have hft : fixI q (2 ^ (v - 1 - k)) (ftK q d v ts rs k) d (el q (rs.getD k 0)) = ftK q d v ts rs (k + 1) := rfl
      rw [← hgr] at hce hrI
      obtain ⟨r, hr⟩ : ∃ r, r = rs.getD k 0 := ⟨_, rfl⟩
      have hfi := HFI.out k
      rw [hft] at hfi
      rw [← hr] at hce hrI hft
      obtain ⟨ad, A1, n1, c1', rfl, hbd, hcc, hl1, hn1, hs1, _⟩ := (HTR.out.below hbr) k (by rw [rdL_len]; exact hkv)
      rw [rdL_get q d v ts rs k hkv] at hl1 hs1
      have hb0 := hbr.cell (p := ⟨o, 0, none⟩) hl5
      have c0' := hb0.trans c0
      have HRK := Lib.hid hrr
      have HRX := Lib.hid hrf
      have HFT := Lib.hid hft
      have HFX := Lib.hid hfi
      have HTK := Lib.hid htb
      have HL1 := Lib.hid hl1
      have HS1 := Lib.hid hs1
      have HBR := Lib.hid hbr
      have k1 : (0 : Int) ≤ (k : Int) := by omega
      have k2 : (k : Int) < (v : Int) := by omega
      clear hrr hrf hgr hft hfi htb hl1 hs1 hbr hsb hr hb0
      go_wp2_with fail
      refine (HRK.out).mono ?_
      rintro e w6 ⟨v6, rfl, hown6, hb6⟩
      obtain ⟨AL, nL, cL, rfl, hlL, hcL, hmL, slL⟩ := hown6.shapeN
      have c6 := (hb6.cell (p := ⟨o, 0, none⟩) (Nat.lt_of_lt_of_le hl5 HBR.out.size)).trans c0'
      have hcc6 := (hb6.cell (p := ad.add k) hbd).trans hcc
      have hce6 := (hb6.cell (p := ae.add k) (by rw [block_of_add]; exact hae)).trans hce
      have hIS := ints_sameH A1 AL n1 c1' nL cL _ _ HL1.out hlL rfl (by omega) w6 (HS1.out.below hb6) slL
      have HIS := Lib.hid hIS
      have HB6 := Lib.hid (HBR.out.trans (hb6.mono HBR.out.size))
      have HT6 := Lib.hid (HTK.out.below hb6)
      clear hown6 hlL hcL hmL slL hb6 hIS hcc c0' hce
      go_wp2_with fail
      refine (HIS.out).mono ?_
      rintro e w7 ⟨rfl, m7, rfl⟩
      have hce7 : (w6.drewN m7).cell? (ae.add k) = some (vi r) := hce6
      go_wp2_with fail
      refine (HRX.out r hrI _ (HT6.out.drewN m7)).mono ?_
      rintro e w8 ⟨v8, us8, rfl, hown8, hrows8, hb8⟩
      obtain ⟨A8, n8, c8, rfl, hl8, _⟩ := ownR_shape hown8
      rw [HFT.out] at hrows8
      have hn8 : n8 = d := by have h := hrows8.1; rw [HFL.out, hl8] at h; exact h
      subst hn8
      have tb8 := tb_own hown8 hrows8 HFX.out
      have hbd7 : Below w5.heap.size w5 (w6.drewN m7) := below_drewN HB6.out m7
      have hb58 := hbd7.trans (hb8.mono hbd7.size)
      have HT8 := Lib.hid tb8
      have HB8 := Lib.hid hb58
      clear tb8 hb58 hbd7 hb8 hown8 hrows8 hl8 hce7 hce6 hcc6 c6
      go_wp2
      go_roundw
      case rel => exact ⟨k + 1, A8, c8, by omega, by go_num, rfl, HT8.out, HB8.out⟩
      case measure => simp [intOf]; omega
    · have ek : k = v := by omega
      subst ek
      have t5 : ¬ (k : Int) < (k : Int) := by omega
      obtain ⟨w9, hw9⟩ : ∃ w9, w9 = wr := ⟨_, rfl⟩
      subst hw9
      have HT9 := Lib.hid htb
      have HB9 := Lib.hid hbr
      have hl9 := Nat.lt_of_lt_of_le hl5 hbr.size
      have c19 := (hbr.cell (p := ⟨o, 1, none⟩) hl5).trans c1
      have HSF9 := Lib.hid (HSF.out.below hbr)
      clear htb hbr c0 c1
      go_wp2
      go_loopw [19, 20] (fun t _ wr => ∃ j : Nat, j ≤ d ∧ t = vi j ∧ wr = w9) (fun t _ _ => d - (intOf t).toNat)
      case atStart => exact ⟨0, Nat.zero_le _, rfl, rfl⟩
      case round =>
        obtain ⟨j, hj, rfl, rfl⟩ := hrel
        by_cases hjd : j < d
        · have hjl : j < (ftK q d k ts rs k).length := by rw [HFL.out]; exact hjd
          obtain ⟨ad, A1, n1, c1', rfl, hbd, hcc, hl1, hn1, hs1, hi1⟩ := HT9.out j hjl
          have hone : (ftK q d k ts rs k)[j].length = 1 := by rw [HFN.out k (Nat.le_refl _) _ (List.getElem_mem hjl), Nat.sub_self]
          have en1 : n1 = 1 := by rw [← hl1]; exact hone
          subst en1
          obtain ⟨ae, rfl, hae, hce⟩ := hs1.at_ (k := 0) (by rw [hone]; omega)
          have hxI := hi1 _ (List.getElem_mem (show 0 < (ftK q d k ts rs k)[j].length by rw [hone]; omega))
          have hfin : finF q d k ts rs j = el q ((ftK q d k ts rs k)[j][0]'(by rw [hone]; omega)) := by
            unfold finF tabOf
            rw [List.getD_eq_getElem?_getD, List.getElem?_eq_getElem hjl, Option.getD_some]
            simp [els, co, hone]
          obtain ⟨x, hx⟩ : ∃ x, x = (ftK q d k ts rs k)[j][0]'(by rw [hone]; omega) := ⟨_, rfl⟩
          rw [← hx] at hce hxI hfin
          rw [show ae.add 0 = ae by simp [Addr.add]] at hce
          have hro := HRO.out x hxI wr
          rw [← hfin] at hro
          obtain ⟨af, rfl, haf, hcf⟩ := HSF9.out.at_ (k := j) (by rw [finL_len]; exact hjd)
          rw [finL_get q d k ts rs j hjd] at hcf
          generalize fv (finF q d k ts rs j) = Y at hro hcf
          have HROO := Lib.hid hro
          have j1 : (0 : Int) ≤ (j : Int) := by omega
          have j2 : (j : Int) < (d : Int) := by omega
          have t6 : (Y != Y) = false := by simp
          clear hro hfin hx hone hl1 hs1 hi1 hjl
          go_wp2_with fail
          refine (HROO.out).mono ?_
          rintro e w' ⟨rfl, rfl⟩
          go_wp2
          go_roundw
          case rel => exact ⟨j + 1, by omega, by go_num, by trivial⟩
          case measure => simp [intOf]; omega
        · have ej : j = d := by omega
          subst ej
          have t7 : ¬ (j : Int) < (j : Int) := by omega
          have HWW := Lib.hid (HBW.out.trans (HB9.out.mono HBW.out.size))
          have hA := HTB.out.below HB9.out
          have hS := HTS.out.below HB9.out
          have HRS := Lib.hid (rows_same A2 A j c2 c ts HLA.out (by omega) _ hA hS)
          clear hA hS
          go_wp2_with fail
          refine (HRS.out).mono ?_
          rintro e w6 ⟨rfl, m2, rfl⟩
          go_wp2
          go_ret
          exact ⟨rfl, below_drewN HWW.out _⟩

theorem makes_walk (w : World) (p : Int) (hp : I64 p) (A : Option Addr) (d c : Nat) (ts : List (List Int)) (ha : ArgMS w A d c ts) (B : Option Addr) (m cb : Nat) (rs : List Int) (hb : ArgS w B m cb rs) (hT : Typed w) :
    Calls Tryd.prog 3 #[vi p, .slice A d c, .slice B m cb] w fun e w' => SaysW (.bool true) w e w' := by
  have hm63 : m < 9223372036854775808 := by have := hb.cap; have := hb.reach; omega
  have hd63 : d < 9223372036854775808 := by have := ha.n24; omega
  by_cases hF : HasField p
  · obtain ⟨h3, hm, hpr⟩ := hF
    obtain ⟨q, rfl⟩ := Int.eq_ofNat_of_zero_le (a := p) (by omega)
    rw [Int.toNat_natCast] at hpr
    haveI := hpr.ne
    by_cases h : d = 0 ∨ 4 < d
    · exact smk_no w q (by omega) (by omega) hpr A d c ts ha.m ha.n24 ha.rows ha.i64 B m cb hm63 (-1) 2 ⟨.inl ⟨by omega, rfl⟩⟩
        (fun W hW => (rover_d A d c hd63 h W).mono fun e w' ⟨h1, h2⟩ => ⟨h1, 0, h2.symm⟩)
        (fun W b A2 c2 hc hW => smake_bad b A2 d c2 B m cb W fun W hW => (checked_d A2 d c2 hd63 h W).mono fun e w' h => ⟨h.1, h.2 ▸ Below.refl _ _⟩) hT
    · by_cases hv : ∃ v, Over ts v
      · obtain ⟨v, hv⟩ := hv
        have hn0 : (ts.getD 0 []).length = 2 ^ v := by
          rw [List.getD_eq_getElem?_getD, List.getElem?_eq_getElem (by rw [ha.m.len]; omega), Option.getD_some]
          exact (hv _ (List.getElem_mem _)).2
        have hv12 : v ≤ 12 := (hv _ (List.getElem_mem (show 0 < ts.length by rw [ha.m.len]; omega))).1
        have hvs : varsI (2 ^ v) = (v : Int) := varsI_of ⟨hv12, rfl⟩
        have hov : ∀ W, TB W A ts → Calls Tryd.prog 11 #[.slice A d c] W fun e w' => e = .returned (vi v) ∧ ∃ k, w' = W.drewN k := fun W hW =>
          rover_all A d c ts ha.m.len (by omega) (by omega) _ hn0 v (fun _ => hvs.symm) (fun ⟨j, hj, hne⟩ => absurd (by
            rw [List.getD_eq_getElem?_getD, List.getElem?_eq_getElem (by rw [ha.m.len]; omega), Option.getD_some]
            exact (hv _ (List.getElem_mem _)).2) hne) W hW
        by_cases hvm : m = v
        · subst hvm
          by_cases hqd : q ≤ d
          · exact smk_no w q (by omega) (by omega) hpr A d c ts ha.m ha.n24 ha.rows ha.i64 B m cb hm63 m 3 ⟨.inr (.inr ⟨by omega, rfl, by omega, rfl⟩)⟩ hov
              (fun W b A2 c2 hc hW => smake_big q b A2 d c2 ts ha.m.len (by omega) (by omega) m hv B cb hqd W hc hW) hT
          · exact smk_yes w q (by omega) (by omega) hpr A d c ts ha.m ha.n24 ha.rows ha.i64 (by omega) (by omega) (by omega) m hv B cb rs hb hT
        · exact smk_no w q (by omega) (by omega) hpr A d c ts ha.m ha.n24 ha.rows ha.i64 B m cb hm63 v 2 ⟨.inr (.inl ⟨by omega, by omega, rfl⟩)⟩ hov
            (fun W b A2 c2 hc hW => smake_len b A2 d c2 ts ha.m.len (by omega) (by omega) v hv B m cb hvm hm63 W hW) hT
      · have hov : ∀ W, TB W A ts → Calls Tryd.prog 11 #[.slice A d c] W fun e w' => e = .returned (vi (-1)) ∧ ∃ k, w' = W.drewN k := fun W hW =>
          rover_all A d c ts ha.m.len (by omega) (by omega) _ rfl (-1) (fun hall => by
            symm
            refine varsI_no fun ⟨v, hc⟩ => hv ⟨v, ?_⟩
            exact over_of_all ha.m.len hall hc) (fun _ => rfl) W hW
        exact smk_no w q (by omega) (by omega) hpr A d c ts ha.m ha.n24 ha.rows ha.i64 B m cb hm63 (-1) 2 ⟨.inl ⟨by omega, rfl⟩⟩ hov
          (fun W b A2 c2 hc hW => smake_bad b A2 d c2 B m cb W fun W1 hW1 => by
            have hbW : Below W.heap.size W W1 := by rw [hW1]; exact (Below.refl _ _).alloc (Nat.le_refl _) _
            exact checked_no A2 d c2 ts ha.m.len (by omega) (by omega) hv W1 (hW.below hbW)) hT
  · have HN := Lib.hid (sfield_no p hp hF w hT)
    clear hF
    go_enter Tryd.func3, Tryd.ntmps3
    go_wp2_with fail
    refine (HN.out).mono ?_
    rintro e w1 ⟨rfl, hb1⟩
    go_wp2
    go_ret
    exact ⟨rfl, hb1⟩
end Go.Proofs.YtgmkcmahbefcoaaDoor
