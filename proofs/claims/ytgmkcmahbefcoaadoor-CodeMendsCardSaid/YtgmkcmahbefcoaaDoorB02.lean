/- A bundle of texts: Deg, Trim, Mul, Spread, Ints, Vals, Sm1, Fold, Sm2, Code, Sm3, Tb, Sm4, Ct, AppA, Arg. -/
import Derived.Test.YtgmkcmahbefcoaaDoorB01
import Derived.Test.YtgmkcmahbefcoaaDoorB00
import Derived.IntWalk
import Derived.Deep.RegionHeld3
import Derived.Deep.QuietTactic
import Derived.BigQuiet
import Derived.Outline
import Derived.WalkLawsBesides
import Derived.WalkSpells
import Derived.Deep.AppendLies
import Derived.ChangeSlices
/- Walks of poly.Degree and of the reference's Degree. -/
set_option linter.unusedVariables false
namespace Go.Proofs.YtgmkcmahbefcoaaDoor
open Go.RowKit Zp

/-- what the loop from the end knows: from place n on all is 0 -/
def ZeroFrom (p : Nat) [NeZero p] (xs : List Int) (n : Nat) : Prop := ∀ i, n ≤ i → co (els p xs) i = 0
theorem ZeroFrom.start (p : Nat) [NeZero p] (xs : List Int) : ZeroFrom p xs xs.length := fun i hi => co_of_ge (by simpa using hi)
theorem ZeroFrom.next {p : Nat} [NeZero p] {xs : List Int} {n : Nat} (h : ZeroFrom p xs (n + 1)) (h0 : co (els p xs) n = 0) : ZeroFrom p xs n := fun i hi => by
  by_cases he : i = n
  · rw [he]; exact h0
  · exact h i (by omega)
theorem ZeroFrom.done {p : Nat} [NeZero p] {xs : List Int} {n : Nat} (h : ZeroFrom p xs n) (hn : n = 0 ∨ co (els p xs) (n - 1) ≠ 0) : degL (els p xs) = (n : Int) - 1 := by
  unfold degL
  rw [(trimAt_iff_co.2 ⟨h, hn⟩).length]

def DegRel (p : Nat) [NeZero p] (xs : List Int) (i : Value) : Prop := ∃ k : Nat, k ≤ xs.length ∧ i = vi ((k : Int) - 1) ∧ ZeroFrom p xs k
set_option maxHeartbeats 1000000 in
theorem degree_any (p : Nat) [NeZero p] (hp2 : p ≤ 2147483647) (b : Nat) (A : Option Addr) (cap : Nat) (xs : List Int) (hxs : ∀ n ∈ xs, I64 n) (hreach : xs.length * 8 ≤ 281474976710656) (w : World) (hc : w.cell? ⟨b, 0, none⟩ = some (vi p)) (hs : SL w A xs) :
    Calls Tryd.prog 100 #[.pointer (some ⟨b, 0, none⟩), .slice A xs.length cap] w fun e w' => e = .returned (vi (degL (els p xs))) ∧ w = w' := by
  obtain ⟨len, hlen⟩ : ∃ len, len = xs.length := ⟨_, rfl⟩
  rw [← hlen]
  rw [← hlen] at hreach
  have HL := Lib.hid hlen
  clear hlen
  go_enter Tryd.func100, Tryd.ntmps100
  go_wp2
  go_loop [5] (fun i => DegRel p xs i) (fun i => (intOf i + 1).toNat)
  case atStart => exact ⟨len, by rw [HL.out]; exact Nat.le_refl _, rfl, by rw [HL.out]; exact ZeroFrom.start p xs⟩
  case round =>
    obtain ⟨k, hk, rfl, hz⟩ := hrel
    rw [← HL.out] at hk
    have HZ := Lib.hid hz
    clear hz
    by_cases h0 : k = 0
    · subst h0
      have t1 : decide ((0 : Int) ≤ (((0 : Nat) : Int) - 1)) = false := by simp
      go_wp2
      go_ret
      exact ⟨ret_int (HZ.out.done (.inl rfl)).symm, rfl⟩
    · have i0 : (0 : Int) ≤ (k : Int) - 1 := by omega
      have i1 : (1 : Int) ≤ (k : Int) := by omega
      have i2 : ((k : Int) - 1).toNat = k - 1 := by omega
      have hkx : k - 1 < xs.length := by rw [← HL.out]; omega
      obtain ⟨ad, rfl, hab, hcell⟩ := hs.at_ hkx
      have hI := hxs _ (List.getElem_mem hkx)
      have hco : co (els p xs) (k - 1) = el p xs[k - 1] := by rw [co_of_lt (by simpa using hkx)]; simp
      obtain ⟨x, hx⟩ : ∃ x, x = xs[k - 1] := ⟨_, rfl⟩
      rw [← hx] at hI hcell hco
      have hcell' : w.cell? (ad.add ((k : Int) - 1).toNat) = some (vi x) := by rw [i2]; exact hcell
      have HC := Lib.hid hco
      clear hx hco i2
      by_cases hx0 : el p x = 0
      · have t1 : (fv (el p x) == 0) = true := by rw [hx0]; rfl
        have hz2 : ZeroFrom p xs (k - 1) := ZeroFrom.next (by rw [show k - 1 + 1 = k from by omega]; exact HZ.out) (by rw [HC.out]; exact hx0)
        have HZ2 := Lib.hid hz2
        clear hz2 hx0
        go_wp2_with (go_at_call 35; refine (of_el p hp2 b x hI _ hc).mono ?_; rintro e w' ⟨rfl, rfl⟩)
        go_round
        case rel => exact ⟨k - 1, by rw [← HL.out]; omega, by congr 1; omega, HZ2.out⟩
        case measure => simp [intOf]; omega
      · have t1 : (fv (el p x) == 0) = false := by rw [beq_eq_false_iff_ne]; exact fun h => hx0 (fv_eq_zero.1 h)
        have hd := HZ.out.done (.inr (by rw [HC.out]; exact hx0))
        have HD := Lib.hid hd
        clear hd hx0
        go_wp2_with (go_at_call 35; refine (of_el p hp2 b x hI _ hc).mono ?_; rintro e w' ⟨rfl, rfl⟩)
        go_ret
        exact ⟨ret_int HD.out.symm, rfl⟩
end Go.Proofs.YtgmkcmahbefcoaaDoor

/- The walk of poly.Trim. -/
set_option linter.unusedVariables false
namespace Go.Proofs.YtgmkcmahbefcoaaDoor
open Go.RowKit Zp

def TrimRel (p : Nat) [NeZero p] (xs : List Int) (n : Nat) (w : World) (v i : Value) (wr : World) : Prop := ∃ k g : Nat, k ≤ n ∧ i = vi k ∧ v = .slice (some ⟨g, 0, none⟩) k n ∧ Own wr w.heap.size v ((fvs (trimL (els p xs))).take k) ∧ Below w.heap.size w wr

set_option maxRecDepth 100000 in
set_option maxHeartbeats 1000000 in
theorem trim_any (p : Nat) [NeZero p] (hp2 : p ≤ 2147483647) (b : Nat) (A : Option Addr) (cap : Nat) (xs : List Int) (hxs : ∀ n ∈ xs, I64 n) (hreach : xs.length * 8 ≤ 281474976710656) (hcap : xs.length ≤ cap) (w : World) (hc : w.cell? ⟨b, 0, none⟩ = some (vi p)) (hs : SL w A xs) :
    Calls Tryd.prog 78 #[.pointer (some ⟨b, 0, none⟩), .slice A xs.length cap] w fun e w' => Made (fvs (trimL (els p xs))) w e w' := by
  have hbl : b < w.heap.size := block_lt_of_cell hc
  have hdeg := degree_any p hp2 b A cap xs hxs hreach w hc hs
  obtain ⟨n, hn⟩ : ∃ n, n = (trimL (els p xs)).length := ⟨_, rfl⟩
  have hnl : n ≤ xs.length := by rw [hn]; have := trimL_length_le (els p xs); simpa using this
  have hd : degL (els p xs) = (n : Int) - 1 := by unfold degL; rw [hn]
  rw [hd] at hdeg
  have HDEG := Lib.hid hdeg
  have hmk := make_ints0 n (by omega)
  have HN := Lib.hid hn
  clear hn hd hdeg
  obtain ⟨len, hlen⟩ : ∃ len, len = xs.length := ⟨_, rfl⟩
  rw [← hlen] at hreach hnl HDEG hcap
  rw [← hlen]
  have HL := Lib.hid hlen
  clear hlen
  go_enter Tryd.func78, Tryd.ntmps78
  go_wp2_with fail
  refine (HDEG.out).mono ?_
  rintro e w' ⟨rfl, rfl⟩
  go_wp2
  go_loopw [6, 8, 19] (fun v _ i wr => TrimRel p xs n w v i wr) (fun _ _ i _ => n - (intOf i).toNat)
  case atStart => exact ⟨0, w.heap.size, Nat.zero_le _, rfl, rfl, own_made0 w _ n (Nat.le_refl _) (by omega), (Below.refl _ _).alloc (Nat.le_refl _) _⟩
  case round =>
    obtain ⟨k, g, hk, rfl, rfl, hown, hb⟩ := hrel
    by_cases hlt : k < n
    · have hkx : k < xs.length := by rw [← HL.out]; omega
      have hcr : wr.cell? ⟨b, 0, none⟩ = some (vi p) := (hb.cell (p := ⟨b, 0, none⟩) hbl).trans hc
      obtain ⟨ad, rfl, hab, hcell⟩ := (hs.below hb).at_ hkx
      have hI := hxs _ (List.getElem_mem hkx)
      obtain ⟨x, hx⟩ : ∃ x, x = xs[k] := ⟨_, rfl⟩
      rw [← hx] at hI hcell
      have htl : k < (trimL (els p xs)).length := by rw [← HN.out]; exact hlt
      have h2 := map_take_succ fv (trimL (els p xs)) k htl
      have h3 : (trimL (els p xs))[k] = el p x := by
        rw [← co_of_lt htl, co_trim, co_of_lt (by simpa using hkx), List.getElem_map, hx]
      rw [h3] at h2
      have H2 := Lib.hid h2
      have hll : ((fvs (trimL (els p xs))).take k).length = k := by rw [List.length_take, List.length_map]; omega
      have HLL := Lib.hid hll
      clear hx h2 h3 hll
      go_wp2_with (first | (go_at_call 35; refine (of_el p hp2 b x hI _ hcr).mono ?_; rintro e w' ⟨rfl, rfl⟩) | (at_builtin; refine wpList_app1_fits w' (fv (el p x)) rfl _ _ rfl w.heap.size g k n _ rfl rfl hown HLL.out.symm hlt ?_; intro w1 hown1 hg))
      go_roundw
      case rel => exact ⟨k + 1, g, by omega, by go_num, rfl, by rw [← H2.out]; exact hown1, hb.grown hg hb.size (fun j hj => by injection hj with hj; subst hj; exact (hown.lt g rfl).1)⟩
      case measure => simp [intOf]; omega
    · obtain rfl : k = n := by omega
      go_wp2
      go_ret
      rw [List.take_of_length_le (by simp; rw [HN.out]; exact Nat.le_refl _)] at hown
      exact ⟨_, rfl, hown, hb⟩
end Go.Proofs.YtgmkcmahbefcoaaDoor

/- The walk of poly.Mul. -/
set_option linter.unusedVariables false
namespace Go.Proofs.YtgmkcmahbefcoaaDoor
open Go.RowKit Zp

/-- one's own slice of elements, its block known -/
def OwnE {p : Nat} (wr : World) (base g n : Nat) (L : List (Fin p)) : Prop := L.length = n ∧ Own wr base (.slice (some ⟨g, 0, none⟩) n n) (fvs L)
theorem OwnE.at_ {p : Nat} [NeZero p] {wr : World} {base g n : Nat} {L : List (Fin p)} (h : OwnE wr base g n L) (j : Nat) (hj : j < n) : wr.cell? ⟨g, j, none⟩ = some (vi (fv (co L j))) := by
  have hl := h.1
  have := Own.at_ h.2 (by simp [hl]) j (by simp [hl]; omega)
  rw [this, co_of_lt (by omega), List.getElem_map]
theorem OwnE.frozen {p : Nat} {wr : World} {base g n : Nat} {L : List (Fin p)} (h : OwnE wr base g n L) (j : Nat) : wr.frozen? ⟨g, j, none⟩ = false := Own.frozen_ h.2 (by simp [h.1]) j
theorem OwnE.store {p : Nat} {wr : World} {base g n : Nat} {L : List (Fin p)} (h : OwnE wr base g n L) (j : Nat) (x : Fin p) : OwnE (wr.setCell ⟨g, j, none⟩ (vi (fv x))) base g n (L.set j x) := by
  refine ⟨by simp [h.1], ?_⟩
  have := Own.store h.2 (by simp [h.1]) j (fv x)
  rwa [← List.map_set] at this
theorem OwnE.made {p : Nat} [NeZero p] (w : World) (base n : Nat) (hb : base ≤ w.heap.size) (hc : n * 8 ≤ 281474976710656) : OwnE (p := p) (w.alloc (.cells (zeros n) 3)) base w.heap.size n (List.replicate n 0) := by
  refine ⟨by simp, ?_⟩
  have := own_made w base n hb hc
  rwa [show List.replicate n (0 : Int) = fvs (List.replicate n (0 : Fin p)) from by simp [fv_zero]] at this
theorem OwnE.lt {p : Nat} {wr : World} {base g n : Nat} {L : List (Fin p)} (h : OwnE wr base g n L) : base ≤ g ∧ g < wr.heap.size := h.2.lt g rfl
theorem OwnE.sl {p : Nat} {wr : World} {base g n : Nat} {L : List (Fin p)} (h : OwnE wr base g n L) : SL wr (some ⟨g, 0, none⟩) (fvs L) := by
  obtain ⟨A, c, h1, h2⟩ := h.2.len
  injection h1 with h1 _ _
  rw [h1]; exact h2
theorem co_set {p : Nat} [NeZero p] (L : List (Fin p)) (j : Nat) (x : Fin p) (hj : j < L.length) (m : Nat) : co (L.set j x) m = if m = j then x else co L m := by
  unfold co
  rw [List.getElem?_set]
  by_cases h : m = j
  · subst h; rw [if_pos rfl, if_pos rfl, if_pos hj]; rfl
  · rw [if_neg (fun e => h e.symm), if_neg h]
theorem co_replicate {p : Nat} [NeZero p] (n m : Nat) : co (List.replicate n (0 : Fin p)) m = 0 := by
  unfold co
  rw [List.getElem?_replicate]
  split <;> rfl

theorem i64_fvs {p : Nat} (L : List (Fin p)) (hp2 : p ≤ 2147483647) : ∀ n ∈ fvs L, I64 n := by
  intro n hn
  obtain ⟨x, _, rfl⟩ := List.mem_map.1 hn
  exact i64_fv x hp2

theorem mac_fv {p : Nat} (o x y : Fin p) : (fv o + fv x * fv y) % (p : Int) = fv (o + x * y) := by
  rw [fv_add, fv_mul, Int.add_emod_emod]

def MulOut {p : Nat} [NeZero p] (a b : List (Fin p)) (w : World) (n g : Nat) (i : Value) (wr : World) : Prop := ∃ (k : Nat) (L : List (Fin p)), k ≤ a.length ∧ i = vi k ∧ OwnE wr w.heap.size g n L ∧ (∀ m, co L m = co (mulL (a.take k) b) m) ∧ Below w.heap.size w wr
def MulIn {p : Nat} [NeZero p] (a b : List (Fin p)) (w : World) (n g i : Nat) (j : Value) (wr : World) : Prop := ∃ (k : Nat) (L : List (Fin p)), k ≤ b.length ∧ j = vi k ∧ OwnE wr w.heap.size g n L ∧ (∀ m, co L m = co (mulL (a.take i) b) m + if i ≤ m ∧ m < i + k then co a i * co b (m - i) else 0) ∧ Below w.heap.size w wr

theorem mulIn_step {p : Nat} [NeZero p] {a b L : List (Fin p)} {i k : Nat} (h : ∀ m, co L m = co (mulL (a.take i) b) m + if i ≤ m ∧ m < i + k then co a i * co b (m - i) else 0) (hl : i + k < L.length) :
    ∀ m, co (L.set (i + k) (co L (i + k) + co a i * co b k)) m = co (mulL (a.take i) b) m + if i ≤ m ∧ m < i + (k + 1) then co a i * co b (m - i) else 0 := by
  intro m
  rw [co_set _ _ _ hl]
  by_cases hm : m = i + k
  · subst hm
    rw [if_pos rfl, h, if_neg (by omega), if_pos ⟨by omega, by omega⟩, show i + k - i = k from by omega]
    grind
  · rw [if_neg hm, h]
    by_cases h1 : i ≤ m ∧ m < i + k
    · rw [if_pos h1, if_pos ⟨h1.1, by omega⟩]
    · rw [if_neg h1, if_neg (by omega)]
theorem mulIn_done {p : Nat} [NeZero p] {a b L : List (Fin p)} {i : Nat} (hi : i < a.length) (h : ∀ m, co L m = co (mulL (a.take i) b) m + if i ≤ m ∧ m < i + b.length then co a i * co b (m - i) else 0) :
    ∀ m, co L m = co (mulL (a.take (i + 1)) b) m := by
  intro m
  rw [List.take_succ_eq_append_getElem hi, co_mulL_snoc, h, List.length_take, Nat.min_eq_left (by omega), ← co_of_lt hi]
  congr 1
  by_cases h1 : i ≤ m
  · rw [if_pos h1]
    by_cases h2 : m < i + b.length
    · rw [if_pos ⟨h1, h2⟩]
    · rw [if_neg (by omega), co_of_ge (l := b) (by omega)]; grind
  · rw [if_neg h1, if_neg (by omega)]

set_option maxRecDepth 100000 in
set_option maxHeartbeats 4000000 in
theorem pmul_any (p : Nat) [NeZero p] (hp2 : p ≤ 2147483647) (b : Nat) (A B : Option Addr) (ca cb : Nat) (xs ys : List Int) (hxs : ∀ n ∈ xs, I64 n) (hys : ∀ n ∈ ys, I64 n) (hrx : xs.length * 8 ≤ 140737488351232) (hry : ys.length * 8 ≤ 140737488351232) (hcx : xs.length ≤ ca) (hcy : ys.length ≤ cb)
    (w : World) (hc : w.cell? ⟨b, 0, none⟩ = some (vi p)) (hsx : SL w A xs) (hsy : SL w B ys) :
    Calls Tryd.prog 90 #[.pointer (some ⟨b, 0, none⟩), .slice A xs.length ca, .slice B ys.length cb] w fun e w' => Made (fvs (trimL (mulL (els p xs) (els p ys)))) w e w' := by
  have hbl : b < w.heap.size := block_lt_of_cell hc
  have h1 := trim_any p hp2 b A ca xs hxs (by omega) hcx w hc hsx
  obtain ⟨R, hR⟩ : ∃ R, R = fvs (trimL (mulL (els p xs) (els p ys))) := ⟨_, rfl⟩
  rw [← hR]
  have HR := Lib.hid hR
  clear hR
  go_enter Tryd.func90, Tryd.ntmps90
  go_wp2_with fail
  refine (h1).mono ?_
  rintro e w1 ⟨v1, rfl, hown1, hb1⟩
  have hcr1 := (hb1.cell (p := ⟨b, 0, none⟩) hbl).trans hc
  have h2 := trim_any p hp2 b B cb ys hys (by omega) hcy w1 hcr1 (hsy.below hb1)
  go_wp2_with fail
  refine (h2).mono ?_
  rintro e w2 ⟨v2, rfl, hown2, hb2⟩
  have hown1' := (hown1.below hb2)
  have hb := hb1.trans (hb2.mono hb1.size)
  have hcr := (hb.cell (p := ⟨b, 0, none⟩) hbl).trans hc
  have hbl2 : b < w2.heap.size := block_lt_of_cell hcr
  obtain ⟨a, ha⟩ : ∃ a, a = trimL (els p xs) := ⟨_, rfl⟩
  obtain ⟨b', hb'⟩ : ∃ b', b' = trimL (els p ys) := ⟨_, rfl⟩
  have hla : a.length ≤ xs.length := by rw [ha]; have := trimL_length_le (els p xs); simpa using this
  have hlb : b'.length ≤ ys.length := by rw [hb']; have := trimL_length_le (els p ys); simpa using this
  have hres : trimL (mulL (els p xs) (els p ys)) = trimL (mulL a b') := trimL_congr (fun m => co_mulL_congr (fun i => by rw [ha, co_trim]) (fun i => by rw [hb', co_trim]) m)
  rw [← ha] at hown1'
  rw [← hb'] at hown2
  have HRES := Lib.hid hres
  have hown2' := hown2.more hb1.size
  clear ha hb' hres hown1 hown2 h1 h2 hcr1
  have hla1 : (fvs a).length = a.length := by simp
  have hlb1 : (fvs b').length = b'.length := by simp
  obtain ⟨na, hna⟩ : ∃ na, na = a.length := ⟨_, rfl⟩
  obtain ⟨nb, hnb⟩ : ∃ nb, nb = b'.length := ⟨_, rfl⟩
  rw [← hna] at hla hla1
  rw [← hnb] at hlb hlb1
  have HNA := Lib.hid hna
  have HNB := Lib.hid hnb
  clear hna hnb
  have hs1 : ∃ A c, v1 = .slice A na c := by
    obtain ⟨A, c, h, _⟩ := hown1'.len
    exact ⟨A, c, by rw [h, hla1]⟩
  have hs2 : ∃ A c, v2 = .slice A nb c := by
    obtain ⟨A, c, h, _⟩ := hown2'.len
    exact ⟨A, c, by rw [h, hlb1]⟩
  obtain ⟨A1, c1, rfl⟩ := hs1
  obtain ⟨A2, c2, rfl⟩ := hs2
  by_cases ha0 : na = 0
  · have hz : a = [] := List.length_eq_zero_iff.1 (by rw [← HNA.out, ha0])
    have t1 : ((na : Int) == 0) = true := by rw [ha0]; rfl
    have H1 := Lib.hid hla1
    have H2 := Lib.hid hlb1
    have HA0 := Lib.hid ha0
    have HZ := Lib.hid hz
    clear hla1 hlb1 ha0 hz
    go_wp2
    go_ret
    exact ⟨_, rfl, by rw [HR.out, HRES.out, HZ.out]; exact World.ownsRow_nil _ _ _ _, hb⟩
  · by_cases hb0 : nb = 0
    · have hz : b' = [] := List.length_eq_zero_iff.1 (by rw [← HNB.out, hb0])
      have t1 : ((na : Int) == 0) = false := by rw [beq_eq_false_iff_ne]; omega
      have t2 : ((nb : Int) == 0) = true := by rw [hb0]; rfl
      have hzm : trimL (mulL a b') = [] := by
        have : ∀ m, co (mulL a b') m = co ([] : List (Fin p)) m := fun m => by rw [co_nil, co_mulL_zero_right (fun i => by rw [hz, co_nil])]
        rw [trimL_congr this]; rfl
      have H1 := Lib.hid hla1
      have H2 := Lib.hid hlb1
      have HB0 := Lib.hid hb0
      have HZ := Lib.hid hz
      have HZM := Lib.hid hzm
      clear hla1 hlb1 hb0 hz hzm
      go_wp2
      go_ret
      exact ⟨_, rfl, by rw [HR.out, HRES.out, HZM.out]; exact World.ownsRow_nil _ _ _ _, hb⟩
    · obtain ⟨g1, c1', e1, hg1, hg1'⟩ := hown1'.block (by rw [hla1]; omega)
      obtain ⟨g2, c2', e2, hg2, hg2'⟩ := hown2'.block (by rw [hlb1]; omega)
      injection e1 with e1 e1b e1c
      injection e2 with e2 e2b e2c
      subst e1 e2
      clear e1b e1c e2b e2c
      have t1 : ((na : Int) == 0) = false := by rw [beq_eq_false_iff_ne]; omega
      have t2 : ((nb : Int) == 0) = false := by rw [beq_eq_false_iff_ne]; omega
      obtain ⟨n, hn⟩ : ∃ n, n = na + nb - 1 := ⟨_, rfl⟩
      have hn1 : n * 8 ≤ 281474976710656 := by omega
      have hmk := make_ints n n (Nat.le_refl _) hn1
      have en : (n : Int) = (na : Int) + nb - 1 := by omega
      rw [en] at hmk
      have HN := Lib.hid hn
      have H1 := Lib.hid hla1
      have H2 := Lib.hid hlb1
      clear hla1 hlb1 hn en
      have hOE := OwnE.made (p := p) w2 w.heap.size n hb.size hn1
      go_wp2
      go_loopw [35] (fun i wr => MulOut a b' w n w2.heap.size i wr ∧ Below w2.heap.size w2 wr) (fun i _ => na - (intOf i).toNat)
      case atStart => exact ⟨⟨0, _, Nat.zero_le _, rfl, hOE, fun m => by rw [co_replicate, List.take_zero, mulL, co_nil], hb.alloc hb.size _⟩, (Below.refl _ _).alloc (Nat.le_refl _) _⟩
      case round =>
        obtain ⟨⟨i, L, hi, rfl, hoe, hco, hbw⟩, hb2⟩ := hrel
        rw [← HNA.out] at hi
        have HCO := Lib.hid hco
        clear hco
        obtain ⟨W0, hW0⟩ : ∃ W0 : World, W0 = wr := ⟨_, rfl⟩
        subst hW0
        by_cases hlt : i < na
        · have hc1 := (hown1'.below hb2).at_ H1.out.symm i (by rw [H1.out]; exact hlt)
          have e1 : (fvs a)[i]'(by rw [H1.out]; exact hlt) = fv (co a i) := by rw [co_of_lt (by rw [← HNA.out]; exact hlt)]; simp
          rw [e1] at hc1
          have i1 : (0 : Int) ≤ i := by omega
          have i2 : (i : Int) < na := by omega
          obtain ⟨x, hx⟩ : ∃ x, x = co a i := ⟨_, rfl⟩
          rw [← hx] at hc1
          have HX := Lib.hid hx
          clear e1 hx
          go_wp2
          go_loopw [42] (fun j wr => MulIn a b' w n w2.heap.size i j wr ∧ Below w2.heap.size w2 wr) (fun j _ => nb - (intOf j).toNat)
          case atStart => exact ⟨⟨0, L, Nat.zero_le _, rfl, hoe, fun m => by rw [if_neg (by omega), HCO.out, Fin.add_zero], hbw⟩, hb2⟩
          case round =>
            obtain ⟨⟨k, M, hk, rfl, hoe', hco', hbw'⟩, hb2'⟩ := hrel
            rw [← HNB.out] at hk
            by_cases hlk : k < nb
            · have hc2 := (hown2'.below hb2').at_ H2.out.symm k (by rw [H2.out]; exact hlk)
              have e2 : (fvs b')[k]'(by rw [H2.out]; exact hlk) = fv (co b' k) := by rw [co_of_lt (by rw [← HNB.out]; exact hlk)]; simp
              rw [e2] at hc2
              have hikn : i + k < n := by rw [HN.out]; omega
              have hco := hoe'.at_ (i + k) hikn
              have hfo := hoe'.frozen (i + k)
              have hcp : wr.cell? ⟨b, 0, none⟩ = some (vi p) := (hb2'.cell (p := ⟨b, 0, none⟩) hbl2).trans hcr
              obtain ⟨o, ho⟩ : ∃ o, o = co M (i + k) := ⟨_, rfl⟩
              rw [← ho] at hco
              have hst := hoe'.store (i + k) (o + co a i * co b' k)
              have hci := mulIn_step hco' (by rw [hoe'.1]; exact hikn)
              rw [← ho] at hci
              obtain ⟨y, hy⟩ : ∃ y, y = co b' k := ⟨_, rfl⟩
              rw [← HX.out] at hst
              rw [← hy] at hc2 hst
              have HCI := Lib.hid hci
              have HY := Lib.hid hy
              have HO := Lib.hid ho
              have HCO' := Lib.hid hco'
              clear hci hy ho hco' e2
              have i3 : (0 : Int) ≤ k := by omega
              have i4 : (k : Int) < nb := by omega
              have i5 : (0 : Int) ≤ (i : Int) + k := by omega
              have i6 : (i : Int) + k < n := by omega
              have i7 : ((i : Int) + k).toNat = i + k := by omega
              have i8 : IntKind.i64.wrap ((i : Int) + k) = (i : Int) + k := IntWalk.i64_in _ (by omega)
              obtain ⟨m1, m2⟩ := mul_bd x y hp2
              have o1 := fv_nonneg o
              have o2 := fv_lt o
              have hp0 : (0 : Int) < p := by have := ppos (p := p); omega
              have i9 : 0 ≤ fv o + fv x * fv y := by omega
              have hpn : ¬ p = 0 := by have := ppos (p := p); omega
              have i12 : (fv o + fv x * fv y).tmod p = fv (o + x * y) := by rw [← mac_fv, Int.tmod_eq_emod_of_nonneg i9]
              have i10 : IntKind.i64.wrap (fv x * fv y) = fv x * fv y := IntWalk.i64_in _ (by omega)
              have i11 : IntKind.i64.wrap (fv o + fv x * fv y) = fv o + fv x * fv y := IntWalk.i64_in _ (by omega)
              have hmx : Tryd.prog.follows .mixedOrders = true := by kernel_rfl
              go_wp2
              refine wp_region_quiet_tail 18 hmx (by kernel_rfl) ?_
              simp only [List.take_succ_cons, List.take_zero, List.drop_succ_cons, List.drop_zero]
              repeat (quiet_step ((go_at_call 32; exact quiet_eq (p_any p b _ (by exact hcp)))))
              refine wpQuiet_nil ?_
              intro _ hw'
              obtain ⟨nq, hw''⟩ := hw'
              subst hw''
              clear i5 i6 i7 i8 i9 i10 i11 i12 m1 m2 o1 o2
              go_wp2
              go_roundw
              case rel =>
                refine ⟨⟨k + 1, _, by rw [← HNB.out]; omega, by go_num, ?_, HCI.out, (below_drewN hbw' nq).setCell (by simp; have := hb.size; omega) _⟩, (below_drewN hb2' nq).setCell (by simp) _⟩
                have h1 : OwnE (wr.drewN nq) w.heap.size w2.heap.size n M := hoe'
                have h2 := h1.store (i + k) (o + x * y)
                rw [← HX.out, ← HY.out]
                exact h2
              case measure => simp [intOf]; omega
            · obtain rfl : k = nb := by omega
              have hd := mulIn_done (by rw [← HNA.out]; exact hlt) (by rw [← HNB.out]; exact hco')
              have HD := Lib.hid hd
              clear hd hco'
              go_wp2
              go_roundw
              case rel => exact ⟨⟨i + 1, M, by rw [← HNA.out]; omega, by go_num, hoe', HD.out, hbw'⟩, hb2'⟩
              case measure => simp [intOf]; omega
        · obtain rfl : i = na := by omega
          have hcp : W0.cell? ⟨b, 0, none⟩ = some (vi p) := (hb2.cell (p := ⟨b, 0, none⟩) hbl2).trans hcr
          have hLn : (fvs L).length = n := by simp [hoe.1]
          have ht := trim_any p hp2 b (some ⟨w2.heap.size, 0, none⟩) n (fvs L) (i64_fvs L hp2) (by rw [hLn]; exact hn1) (by rw [hLn]; exact Nat.le_refl _) W0 hcp hoe.sl
          rw [hLn, els_fvs] at ht
          have HT := Lib.hid ht
          clear ht hLn
          go_wp2_with fail
          refine (HT.out).mono ?_
          rintro e w4 ⟨v4, rfl, hown4, hb4⟩
          go_wp2
          go_ret
          refine ⟨v4, rfl, ?_, hbw.trans (hb4.mono hbw.size)⟩
          rw [HR.out, HRES.out, ← trimL_congr (l := L) (fun m => by rw [HCO.out, List.take_of_length_le (by rw [← HNA.out]; exact Nat.le_refl _)])]
          exact hown4.more hbw.size
end Go.Proofs.YtgmkcmahbefcoaaDoor

/- The walk of (*Domain).spread: what a polynomial is at the powers of a root, by halves. -/
set_option linter.unusedVariables false
namespace Go.Proofs.YtgmkcmahbefcoaaDoor
open Go.RowKit Zp

def SpreadTo (p : Nat) [NeZero p] (base m : Nat) (xs : List Int) (r : Fin p) (w : World) (e : Ending) (w' : World) : Prop :=
  ∃ v' ys, e = .returned v' ∧ Own w' base v' ys ∧ (∀ y ∈ ys, I64 y) ∧ els p ys = dft r m (els p xs) ∧ (m = 1 → ys = xs) ∧ (m ≠ 1 → ys = fvs (dft r m (els p xs))) ∧ Below w.heap.size w w'
def SpreadSpec (p S D b : Nat) [NeZero p] (n : Nat) (s : Fin p) (m : Nat) : Prop :=
  ∀ (w : World) (base : Nat) (v : Value) (xs : List Int) (r : Int), xs.length = m → (∀ x ∈ xs, I64 x) → I64 r → (m = 1 ∨ ∃ h, m = 2 * h ∧ pw (el p r) h = -1) → Dom w S D b p n s → Own w base v xs → base ≤ w.heap.size →
    Calls Tryd.prog 91 #[.pointer (some ⟨D, 0, none⟩), v, vi r] w fun e w' => SpreadTo p base m xs (el p r) w e w'

theorem dft_one {p : Nat} [NeZero p] (r x : Fin p) : dft r 1 [x] = [x] := by
  have : ev [x] (pw r 0) = x := by simp only [ev, pw_zero]; grind
  unfold dft tab
  rw [List.range_one, List.map_singleton, this]

theorem spread_one (p S D b : Nat) [NeZero p] (n : Nat) (s : Fin p) : SpreadSpec p S D b n s 1 := by
  intro w base v xs r hl hx hr _ hD ho hb
  obtain ⟨g, c, rfl, _, _⟩ := ho.block (by omega)
  have hd : els p xs = dft (el p r) 1 (els p xs) := by
    match xs, hl with
    | [x], _ => exact (dft_one _ _).symm
  have t1 : (((1 : Nat) : Int) == 1) = true := rfl
  rw [hl]
  have HL := Lib.hid hl
  have HD := Lib.hid hd
  clear hl hd
  go_enter Tryd.func91, Tryd.ntmps91
  go_wp2
  go_ret
  exact ⟨_, xs, rfl, by rw [HL.out] at ho; exact ho, hx, HD.out, fun _ => rfl, fun h => absurd rfl h, Below.refl _ _⟩

theorem grew_apart {wr w1 : World} {base : Nat} {v v' u : Value} {xs zs ys : List Int} (hd : ∀ g, v.ownBlock = some g → u.ownBlock ≠ some g) (hg : Grew wr w1 base v v' xs) (hv : Own wr base v zs) (hu : Own wr base u ys) :
    Own w1 base u ys ∧ ∀ g, v'.ownBlock = some g → u.ownBlock ≠ some g := by
  refine ⟨hu.grown hg.grown ?_, fun g hg' hu' => ?_⟩
  · cases e : u.ownBlock with
    | none => exact .inl rfl
    | some g => exact .inr fun h => hd g h.symm e
  · rcases hg.at_ with h | ⟨k, h1, h2⟩
    · exact hd g (h ▸ hg') hu'
    · rw [hg'] at h1
      injection h1 with h1
      have := (hu.lt g hu').2
      omega

def HalfRel (xs : List Int) (w : World) (ve vo i : Value) (wr : World) : Prop := ∃ j : Nat, j ≤ xs.length ∧ i = vi j ∧ Own wr w.heap.size ve (evI xs j) ∧ Own wr w.heap.size vo (odI xs j) ∧ (∀ g, ve.ownBlock = some g → vo.ownBlock ≠ some g) ∧ Below w.heap.size w wr
def JoinRel {p : Nat} [NeZero p] (r : Fin p) (l : List (Fin p)) (base m g : Nat) (x i : Value) (wr : World) : Prop := ∃ (j : Nat) (L : List (Fin p)), j ≤ m ∧ i = vi j ∧ x = vi (fv (pw r j)) ∧ OwnE wr base g (2 * m) L ∧ ∀ t, t < j → co L t = ev l (pw r t) ∧ co L (t + m) = ev l (pw r (t + m))

theorem join_step {p : Nat} [NeZero p] {l L : List (Fin p)} {R U V : Fin p} {t m : Nat} (htm : t < m) (hl : t + m < L.length) (h : ∀ j, j < t → co L j = ev l (pw R j) ∧ co L (j + m) = ev l (pw R (j + m))) (hU : U = ev l (pw R t)) (hV : V = ev l (pw R (t + m))) :
    ∀ j, j < t + 1 → co ((L.set t U).set (t + m) V) j = ev l (pw R j) ∧ co ((L.set t U).set (t + m) V) (j + m) = ev l (pw R (j + m)) := by
  intro j hj
  have e : ∀ x, co ((L.set t U).set (t + m) V) x = if x = t + m then V else if x = t then U else co L x := fun x => by
    rw [co_set _ _ _ (by simpa using hl), co_set _ _ _ (by omega)]
  rw [e, e, if_neg (by omega), if_neg (c := j + m = t) (by omega)]
  by_cases he : j = t
  · subst he
    rw [if_pos rfl, if_pos rfl]; exact ⟨hU, hV⟩
  · rw [if_neg he, if_neg (by omega)]; exact h j (by omega)
theorem join_done {p : Nat} [NeZero p] {l L : List (Fin p)} {R : Fin p} {m : Nat} (hl : L.length = 2 * m) (h : ∀ j, j < m → co L j = ev l (pw R j) ∧ co L (j + m) = ev l (pw R (j + m))) : L = dft R (2 * m) l := by
  refine ext_co (by rw [hl, dft_length]) fun i hi => ?_
  rw [dft, co_tab, if_pos (by omega)]
  by_cases h1 : i < m
  · exact (h i h1).1
  · have := (h (i - m) (by omega)).2
    rwa [show i - m + m = i from by omega] at this

set_option maxRecDepth 100000 in
set_option maxHeartbeats 2000000 in
theorem spread_step (p S D b : Nat) [NeZero p] (n : Nat) (s : Fin p) (m : Nat) (hm1 : 1 ≤ m) (hm2 : 2 * m ≤ 65536) (hpow : m = 1 ∨ ∃ h, m = 2 * h) (IH : SpreadSpec p S D b n s m) : SpreadSpec p S D b n s (2 * m) := by
  intro w base v xs r hl hx hr hcond hD ho hb
  have hrm : pw (el p r) m = -1 := by
    rcases hcond with h | ⟨h, e, e2⟩
    · omega
    · rw [show m = h from by omega]; exact e2
  have hcond2 : m = 1 ∨ ∃ h, m = 2 * h ∧ pw (el p r * el p r) h = -1 := hpow.imp id fun ⟨h, e⟩ => ⟨h, e, by
    rw [← hrm, e, pw_mul]
    congr 1
    simp only [pw]; grind⟩
  obtain ⟨g, c, rfl, hg1, hg2⟩ := ho.block (by omega)
  have hp2 := hD.fld.max
  have hsr := fun w' => @Own.below w w' base
  obtain ⟨R, hR⟩ : ∃ R, R = el p r := ⟨_, rfl⟩
  rw [← hR] at hrm hcond2 ⊢
  have HR := Lib.hid hR
  have HRM := Lib.hid hrm
  have HC2 := Lib.hid hcond2
  have HIH := Lib.hid IH
  have t0 : (((2 * m : Nat) : Int) == 1) = false := by rw [beq_eq_false_iff_ne]; omega
  rw [hl]
  have HL := Lib.hid hl
  clear hR hrm hcond hcond2 hpow IH hsr hl
  obtain ⟨N, hN⟩ : ∃ N, N = 2 * m := ⟨_, rfl⟩
  rw [← hN] at t0 hm2 HL ⊢
  have HN := Lib.hid hN
  have hN2 : m < N := by omega
  have hN3 : (N : Int) / 2 = (m : Int) := by omega
  clear hN
  go_enter Tryd.func91, Tryd.ntmps91
  go_wp2_with fail
  go_loopw [8, 9, 24] (fun ve vo i wr => HalfRel xs w ve vo i wr) (fun _ _ i _ => N - (intOf i).toNat)
  case atStart => exact ⟨0, Nat.zero_le _, rfl, World.ownsRow_nil _ _ _ _, World.ownsRow_nil _ _ _ _, fun g h => by simp [Value.ownBlock] at h, Below.refl _ _⟩
  case round =>
    obtain ⟨j, hj, rfl, hve, hvo, hap, hbw⟩ := hrel
    rw [HL.out] at hj
    by_cases hlt : j < N
    · have hjx : j < xs.length := by rw [HL.out]; exact hlt
      have hown := ho.below hbw
      have hcell := hown.at_ rfl j hjx
      have hI := hx _ (List.getElem_mem hjx)
      have hle1 : (evI xs j).length < 17592186044416 := by simp [evI]; omega
      have hle2 : (odI xs j).length < 17592186044416 := by simp [odI]; omega
      have hpar : j % 2 = 0 ∨ ¬ j % 2 = 0 := by omega
      rcases hpar with hev | hod
      · obtain ⟨e1, e2⟩ := evI_even hev hjx
        have t1 : ((j : Int) % 2 == 0) = true := by rw [beq_iff_eq]; omega
        obtain ⟨x, hxj⟩ : ∃ x, x = xs[j] := ⟨_, rfl⟩
        rw [← hxj] at hI hcell e1
        have E1 := Lib.hid e1
        have E2 := Lib.hid e2
        have HAP := Lib.hid hap
        clear hxj e1 e2 hev hap
        go_wp2_with (at_builtin; refine wpList_app1 wr x rfl _ _ rfl w.heap.size _ _ rfl rfl hve hle1 hbw.size ?_; intro v' w1 hg)
        obtain ⟨hvo1, hap1⟩ := grew_apart HAP.out hg hve hvo
        go_roundw
        case rel => exact ⟨j + 1, by rw [HL.out]; omega, by go_num, by rw [← E1.out]; exact hg.own, by rw [E2.out]; exact hvo1, hap1, hg.below hbw hve (Nat.le_refl _) hbw.size⟩
        case measure => simp [intOf]; omega
      · obtain ⟨e1, e2⟩ := odI_odd hod hjx
        have t1 : ((j : Int) % 2 == 0) = false := by rw [beq_eq_false_iff_ne]; omega
        obtain ⟨x, hxj⟩ : ∃ x, x = xs[j] := ⟨_, rfl⟩
        rw [← hxj] at hI hcell e1
        have E1 := Lib.hid e1
        have E2 := Lib.hid e2
        have hap' := fun (g : Nat) h1 h2 => hap g h2 h1
        have HAP := Lib.hid hap'
        clear hxj e1 e2 hod hap hap'
        go_wp2_with (at_builtin; refine wpList_app1 wr x rfl _ _ rfl w.heap.size _ _ rfl rfl hvo hle2 hbw.size ?_; intro v' w1 hg)
        obtain ⟨hve1, hap1⟩ := grew_apart HAP.out hg hvo hve
        go_roundw
        case rel => exact ⟨j + 1, by rw [HL.out]; omega, by go_num, by rw [E2.out]; exact hve1, by rw [← E1.out]; exact hg.own, fun g h1 h2 => hap1 g h2 h1, hg.below hbw hvo (Nat.le_refl _) hbw.size⟩
        case measure => simp [intOf]; omega
    · obtain rfl : j = N := by omega
      obtain ⟨hE1, hO1⟩ := els_evI (p := p) (xs := xs) (m := m) (by rw [HL.out, HN.out])
      rw [← HN.out] at hE1 hO1
      obtain ⟨hE2, hO2⟩ := evI_mem (P := I64) (by constructor <;> omega) hx j
      have hE3 : (evI xs j).length = m := by have := HN.out; simp [evI]; omega
      have hO3 : (odI xs j).length = m := by have := HN.out; simp [odI]; omega
      obtain ⟨E, hE⟩ : ∃ E, E = evI xs j := ⟨_, rfl⟩
      obtain ⟨O, hO⟩ : ∃ O, O = odI xs j := ⟨_, rfl⟩
      rw [← hE] at hE1 hE2 hE3 hve
      rw [← hO] at hO1 hO2 hO3 hvo
      have HE1 := Lib.hid hE1
      have HO1 := Lib.hid hO1
      have HE3 := Lib.hid hE3
      have HO3 := Lib.hid hO3
      clear hE1 hO1 hE3 hO3 hE hO hap
      have hDr := hD.below hbw hD.le
      have hcd := hDr.c0
      have hcb := hDr.fld.c0
      go_wp2_with fail
      refine (mul_any p hp2 b r r hr hr _ hcb).mono ?_
      rintro e w1 ⟨rfl, k1, rfl⟩
      rw [← HR.out]
      have hsq : I64 (fv (R * R)) := i64_fv _ hp2
      have hc2 : m = 1 ∨ ∃ h, m = 2 * h ∧ pw (el p (fv (R * R))) h = -1 := by rw [el_fv]; exact HC2.out
      have HC3 := Lib.hid hc2
      clear hc2
      go_wp2_with fail
      refine (HIH.out _ w.heap.size _ E (fv (R * R)) HE3.out hE2 hsq HC3.out (hDr.drewN k1) (hve.drewN k1) hbw.size).mono ?_
      rintro e w2 ⟨ve2, ys, rfl, hve2, hys, hysd, _, _, hb2⟩
      have hDs := (hDr.drewN k1).below hb2 (hDr.drewN k1).le
      have hvo1 := (hvo.drewN k1).below hb2
      have hbw2 : Below w.heap.size w w2 := (below_drewN hbw k1).trans (hb2.mono hbw.size)
      go_wp2_with fail
      refine (HIH.out _ w.heap.size _ O (fv (R * R)) HO3.out hO2 hsq HC3.out hDs hvo1 hbw2.size).mono ?_
      rintro e w3 ⟨vo2, zs, rfl, hvo2, hzs, hzsd, _, _, hb3⟩
      have hDt := hDs.below hb3 hDs.le
      have hve3 := hve2.below hb3
      have hbw3 : Below w.heap.size w w3 := hbw2.trans (hb3.mono hbw2.size)
      rw [el_fv, HE1.out] at hysd
      rw [el_fv, HO1.out] at hzsd
      have hysl : ys.length = m := by have := congrArg List.length hysd; rw [dft_length] at this; simpa using this
      have hzsl : zs.length = m := by have := congrArg List.length hzsd; rw [dft_length] at this; simpa using this
      have HYS := Lib.hid hysd
      have HZS := Lib.hid hzsd
      have HYL := Lib.hid hysl
      have HZL := Lib.hid hzsl
      clear hDr hcd hcb hve hvo hve2 hDs hvo1 hbw hbw2 hb2 hb3 hysd hzsd
      obtain ⟨gy, cy, e1, _, _⟩ := hve3.block (by rw [hysl]; omega)
      obtain ⟨gz, cz, e2, _, _⟩ := hvo2.block (by rw [hzsl]; omega)
      rw [hysl] at e1
      rw [hzsl] at e2
      subst e1 e2
      clear hysl hzsl
      have hmk := make_ints j j (Nat.le_refl _) (by omega)
      have hOE := OwnE.made (p := p) w3 w.heap.size j hbw3.size (by omega)
      rw [HN.out] at hOE
      have hDl := hDt.le
      go_wp2
      go_loopw [14, 60] (fun x i wr => JoinRel R (els p xs) w.heap.size m w3.heap.size x i wr ∧ Below w3.heap.size w3 wr) (fun _ i _ => m - (intOf i).toNat)
      case atStart => exact ⟨⟨0, _, Nat.zero_le _, rfl, by rw [pw_zero, fv_one hDt.fld.two], by rw [HN.out]; exact hOE, fun t ht => absurd ht (by omega)⟩, (Below.refl _ _).alloc (Nat.le_refl _) _⟩
      case round =>
        obtain ⟨⟨t, L, ht, rfl, rfl, hoe, hco⟩, hbl⟩ := hrel
        have hDw := hDt.below hbl hDl
        have hcd := hDw.c0
        have hcb := hDw.fld.c0
        have HCO := Lib.hid hco
        clear hco
        by_cases hlt : t < m
        · have hty : t < ys.length := by rw [HYL.out]; exact hlt
          have htz : t < zs.length := by rw [HZL.out]; exact hlt
          have hc1 := (hve3.below hbl).at_ HYL.out.symm t hty
          have hc2 := (hvo2.below hbl).at_ HZL.out.symm t htz
          have ha0 := hys _ (List.getElem_mem hty)
          have hz0 := hzs _ (List.getElem_mem htz)
          have hA : el p ys[t] = ev (evens (els p xs)) (pw (R * R) t) := by
            have h : co (els p ys) t = el p ys[t] := by rw [co_of_lt (by simpa using hty)]; simp
            rw [← h, HYS.out, dft, co_tab, if_pos hlt]
          have hZ : el p zs[t] = ev (odds (els p xs)) (pw (R * R) t) := by
            have h : co (els p zs) t = el p zs[t] := by rw [co_of_lt (by simpa using htz)]; simp
            rw [← h, HZS.out, dft, co_tab, if_pos hlt]
          obtain ⟨a0, hae⟩ : ∃ a, a = ys[t] := ⟨_, rfl⟩
          obtain ⟨z0, hze⟩ : ∃ z, z = zs[t] := ⟨_, rfl⟩
          rw [← hae] at hc1 ha0 hA
          rw [← hze] at hc2 hz0 hZ
          obtain ⟨X, hX⟩ : ∃ X, X = pw R t := ⟨_, rfl⟩
          rw [← hX]
          obtain ⟨Y, hY⟩ : ∃ Y, Y = X * el p z0 := ⟨_, rfl⟩
          obtain ⟨U, hU⟩ : ∃ U, U = el p a0 + Y := ⟨_, rfl⟩
          obtain ⟨V, hV⟩ : ∃ V, V = el p a0 - Y := ⟨_, rfl⟩
          have hU2 : U = ev (els p xs) (pw R t) := by rw [hU, hY, hX, hA, hZ]; exact (dft_lo R _ t).symm
          have hV2 : V = ev (els p xs) (pw R (t + m)) := by rw [hV, hY, hX, hA, hZ]; exact (dft_hi HRM.out _ t).symm
          have iX : I64 (fv X) := i64_fv X hp2
          have iY : I64 (fv Y) := i64_fv Y hp2
          have hmul : ∀ W : World, W.cell? ⟨b, 0, none⟩ = some (vi p) → Calls Tryd.prog 47 #[.pointer (some ⟨b, 0, none⟩), vi (fv X), vi z0] W fun e w' => e = .returned (vi (fv Y)) ∧ ∃ k, w' = W.drewN k := fun W h => by
            have := mul_any p hp2 b (fv X) z0 iX hz0 W h
            rw [el_fv, ← hY] at this; exact this
          have hadd : ∀ W : World, W.cell? ⟨b, 0, none⟩ = some (vi p) → Calls Tryd.prog 44 #[.pointer (some ⟨b, 0, none⟩), vi a0, vi (fv Y)] W fun e w' => e = .returned (vi (fv U)) ∧ ∃ k, w' = W.drewN k := fun W h => by
            have := add_any p hp2 b a0 (fv Y) ha0 iY W h
            rw [el_fv, ← hU] at this; exact this
          have hsub : ∀ W : World, W.cell? ⟨b, 0, none⟩ = some (vi p) → Calls Tryd.prog 94 #[.pointer (some ⟨b, 0, none⟩), vi a0, vi (fv Y)] W fun e w' => e = .returned (vi (fv V)) ∧ W = w' := fun W h => by
            have := sub_any p hp2 b a0 (fv Y) ha0 iY W h
            rw [el_fv, ← hV] at this; exact this
          have hX1 : X * R = pw R (t + 1) := by rw [hX, pw_succ]
          have hnx : ∀ W : World, W.cell? ⟨b, 0, none⟩ = some (vi p) → Calls Tryd.prog 47 #[.pointer (some ⟨b, 0, none⟩), vi (fv X), vi r] W fun e w' => e = .returned (vi (fv (pw R (t + 1)))) ∧ ∃ k, w' = W.drewN k := fun W h => by
            have := mul_any p hp2 b (fv X) r iX hr W h
            rw [el_fv, ← HR.out, hX1] at this; exact this
          have HMUL := Lib.hid hmul
          have HADD := Lib.hid hadd
          have HSUB := Lib.hid hsub
          have HNX := Lib.hid hnx
          have HU := Lib.hid hU2
          have HV := Lib.hid hV2
          clear hmul hadd hsub hnx hX1 hU2 hV2 hU hV hY hX hae hze hA hZ
          have i1 : (0 : Int) ≤ t := by omega
          have i2 : (t : Int) < m := by omega
          have i3 : (t : Int) < j := by omega
          have i4 : IntKind.i64.wrap ((t : Int) + m) = (t : Int) + m := IntWalk.i64_in _ (by omega)
          have i5 : (0 : Int) ≤ (t : Int) + m := by omega
          have i6 : (t : Int) + m < j := by have := HN.out; omega
          have i7 : ((t : Int) + m).toNat = t + m := by omega
          have i9 : IntKind.i64.wrap (m : Int) = (m : Int) := IntWalk.i64_in _ (by constructor <;> omega)
          have hf1 := hoe.frozen t
          have hf2 := hoe.frozen (t + m)
          have ho1 := hoe.at_ t (by omega)
          have ho2 := hoe.at_ (t + m) (by omega)
          have hne1 : ¬ D = w3.heap.size := by have := hDt.lt; omega
          have hne3 : ¬ gy = w3.heap.size := by have := (hve3.lt gy rfl).2; omega
          have hne2 : ¬ b = w3.heap.size := by have := hDt.fld.lt; omega
          have hmx : Tryd.prog.follows .mixedOrders = true := by kernel_rfl
          go_wp2
          go_quiet ((go_at_call 47; exact Calls.quiet_of (HMUL.out _ (by exact hcb))))
          go_wp2
          go_region_held3 (fun w' => w'.cell? ⟨D, 0, none⟩ = some (.pointer (some ⟨b, 0, none⟩)) ∧ w'.cell? ⟨gy, t, none⟩ = some (vi a0) ∧ w'.cell? ⟨b, 0, none⟩ = some (vi p)) (first | exact ⟨hcd, hc1, hcb⟩ | exact ⟨setCell_keep hcd hne1, setCell_keep hc1 hne3, setCell_keep hcb hne2⟩ | exact ⟨setCell_keep (setCell_keep hcd hne1) hne1, setCell_keep (setCell_keep hc1 hne3) hne3, setCell_keep (setCell_keep hcb hne2) hne2⟩) ((first | (go_at_call 44; refine (HADD.out _ (by exact hcb)).mono ?_; rintro e w' ⟨rfl, k3, rfl⟩) | (go_at_call 94; refine (HSUB.out _ (by exact hcb)).mono ?_; rintro e w' ⟨rfl, rfl⟩)))
          clear i4 i9 i5 i6 i7
          go_wp2_with fail
          refine (HNX.out _ (by exact setCell_keep (setCell_keep hcb hne2) hne2)).mono ?_
          rintro e w5 ⟨rfl, k5, rfl⟩
          go_wp2
          go_roundw
          case rel =>
            have h1 : OwnE (wr.drewN (nq + 1 + k3)) w.heap.size w3.heap.size (2 * m) L := hoe
            have h2 := (h1.store t U).store (t + m) V
            refine ⟨⟨t + 1, _, by omega, by go_num, rfl, h2, join_step hlt (by rw [hoe.1]; omega) HCO.out HU.out HV.out⟩, ?_⟩
            exact below_drewN (((below_drewN hbl (nq + 1 + k3)).setCell (p := ⟨w3.heap.size, t, none⟩) (Nat.le_refl _) _).setCell (p := ⟨w3.heap.size, t + m, none⟩) (Nat.le_refl _) _) k5
          case measure => simp [intOf]; omega
        · obtain rfl : t = m := by omega
          have hLd : L = dft R (2 * t) (els p xs) := join_done hoe.1 HCO.out
          have HLD := Lib.hid hLd
          clear hLd
          go_wp2
          go_ret
          have ho3 := hoe.2.more hb
          rw [← HN.out] at ho3
          refine ⟨_, fvs L, rfl, ho3, i64_fvs L hp2, ?_, fun h => by have := HN.out; omega, fun _ => ?_, hbw3.trans (hbl.mono hbw3.size)⟩
          · rw [els_fvs, HN.out]; exact HLD.out
          · rw [HN.out]; exact congrArg fvs HLD.out

/-- a power of two: what a polynomial is at the powers of a root -/
theorem spread_any (p S D b : Nat) [NeZero p] (n : Nat) (s : Fin p) : ∀ k, k ≤ 16 → SpreadSpec p S D b n s (2 ^ k)
  | 0, _ => spread_one p S D b n s
  | k + 1, hk => by
    have h1 : 2 ^ k ≤ 2 ^ 15 := Nat.pow_le_pow_right (by omega) (by omega)
    have h2 : 1 ≤ 2 ^ k := Nat.pow_pos (by omega)
    rw [Nat.pow_succ, Nat.mul_comm]
    refine spread_step p S D b n s (2 ^ k) h2 (by omega) ?_ (spread_any p S D b n s k (by omega))
    cases k with
    | zero => exact .inl rfl
    | succ k => exact .inr ⟨2 ^ k, by rw [Nat.pow_succ, Nat.mul_comm]⟩
end Go.Proofs.YtgmkcmahbefcoaaDoor

/- Walks: attestsame.Ints, slices.Clip, the reference's At. -/
set_option linter.unusedVariables false
namespace Go.Proofs.YtgmkcmahbefcoaaDoor
open Go.RowKit

/-- two lists are the same; a Bool behind a name -/
def eqB (xs ys : List Int) : Bool := decide (xs = ys)
theorem eqB_true {xs ys : List Int} (h : xs = ys) : eqB xs ys = true := decide_eq_true h
theorem eqB_false {xs ys : List Int} (h : xs ≠ ys) : eqB xs ys = false := decide_eq_false h

def IntsRel (xs ys : List Int) (w : World) (i : Value) (wr : World) : Prop := ∃ k : Nat, k ≤ xs.length ∧ i = vi k ∧ xs.take k = ys.take k ∧ ∃ j, wr = w.drewN j

set_option maxHeartbeats 1000000 in
theorem ints_any (A B : Option Addr) (c d : Nat) (xs ys : List Int) (hx : xs.length ≤ 9223372036854775807) (hy : ys.length ≤ 9223372036854775807) (w : World) (hsx : SL w A xs) (hsy : SL w B ys) :
    Calls Tryd.prog 14 #[.slice A xs.length c, .slice B ys.length d] w fun e w' => e = .returned (.bool (eqB xs ys)) ∧ ∃ k, w' = w.drewN k := by
  obtain ⟨n, hn⟩ : ∃ n, n = xs.length := ⟨_, rfl⟩
  obtain ⟨m, hm⟩ : ∃ m, m = ys.length := ⟨_, rfl⟩
  rw [← hn, ← hm]
  rw [← hn] at hx
  rw [← hm] at hy
  have HN := Lib.hid hn
  have HM := Lib.hid hm
  clear hn hm
  by_cases hnm : n = m
  · have t1 : ((n : Int) != (m : Int)) = false := by rw [bne_eq_false_iff_eq]; omega
    have HNM := Lib.hid hnm
    clear hnm
    go_enter Tryd.func14, Tryd.ntmps14
    go_wp2
    go_loopw [5] (fun i wr => IntsRel xs ys w i wr) (fun i _ => n - (intOf i).toNat)
    case atStart => exact ⟨0, Nat.zero_le _, rfl, by simp, 0, rfl⟩
    case round =>
      obtain ⟨k, hk, rfl, heq, j, rfl⟩ := hrel
      rw [← HN.out] at hk
      have HEQ := Lib.hid heq
      clear heq
      by_cases hlt : k < n
      · have hkm : k < m := by rw [← HNM.out]; exact hlt
        have hkx : k < xs.length := by rw [← HN.out]; exact hlt
        have hky : k < ys.length := by rw [← HM.out]; exact hkm
        obtain ⟨ad, rfl, _, hc1⟩ := (hsx.drewN j).at_ hkx
        obtain ⟨bd, rfl, _, hc2⟩ := (hsy.drewN j).at_ hky
        have i1 : (0 : Int) ≤ k := by omega
        have i2 : (k : Int) < n := by omega
        have i3 : (k : Int) < m := by omega
        have htk : xs.take (k + 1) = xs.take k ++ [xs[k]] := List.take_succ_eq_append_getElem hkx
        have hty : ys.take (k + 1) = ys.take k ++ [ys[k]] := List.take_succ_eq_append_getElem hky
        obtain ⟨x, hxk⟩ : ∃ x, x = xs[k] := ⟨_, rfl⟩
        obtain ⟨y, hyk⟩ : ∃ y, y = ys[k] := ⟨_, rfl⟩
        rw [← hxk] at hc1 htk
        rw [← hyk] at hc2 hty
        rw [World.cell?_drewN] at hc1 hc2
        by_cases hxy : x = y
        · have t2 : (x != y) = false := by rw [hxy]; simp
          have h2 : xs.take (k + 1) = ys.take (k + 1) := by rw [htk, hty, HEQ.out, hxy]
          have H2 := Lib.hid h2
          clear h2 hxy htk hty hxk hyk
          go_wp2
          go_quiet (fail)
          go_wp2
          go_roundw
          case rel => exact ⟨k + 1, by rw [← HN.out]; omega, by go_num, H2.out, _, rfl⟩
          case measure => simp [intOf]; omega
        · have t2 : (x != y) = true := by rw [bne_iff_ne]; exact hxy
          have h2 : eqB xs ys = false := eqB_false fun e => by
            subst e
            exact hxy (by rw [hxk, hyk])
          have H2 := Lib.hid h2
          clear h2 hxy htk hty hxk hyk
          go_wp2
          go_quiet (fail)
          go_wp2
          go_ret
          exact ⟨ret_bool H2.out.symm, _, World.drewN_drewN _ _ _⟩
      · obtain rfl : k = n := by omega
        have h2 : eqB xs ys = true := eqB_true (by
          have := HEQ.out
          rwa [List.take_of_length_le (by rw [← HN.out]; exact Nat.le_refl _), List.take_of_length_le (by rw [← HM.out, ← HNM.out]; exact Nat.le_refl _)] at this)
        have H2 := Lib.hid h2
        clear h2
        go_wp2
        go_ret
        exact ⟨ret_bool H2.out.symm, _, rfl⟩
  · have t1 : ((n : Int) != (m : Int)) = true := by rw [bne_iff_ne]; omega
    have h2 : eqB xs ys = false := eqB_false fun e => hnm (by rw [HN.out, HM.out, e])
    have H2 := Lib.hid h2
    clear h2 hnm
    go_enter Tryd.func14, Tryd.ntmps14
    go_wp2
    go_ret
    exact ⟨ret_bool H2.out.symm, 0, rfl⟩

theorem clip_any (A : Option Addr) (n c : Nat) (hn : n ≤ c) (hc : c ≤ 9223372036854775807) (w : World) :
    Calls Tryd.prog 37 #[.slice A n c] w fun e w' => e = .returned (.slice A n n) ∧ w = w' := by
  go_enter Tryd.func37, Tryd.ntmps37
  go_wp2
  go_ret
  exact ⟨rfl, rfl⟩

/-- what stands at a place -/
def atI (xs : List Int) (i : Int) : Int := if 0 ≤ i then xs.getD i.toNat 0 else 0
theorem at_any (A : Option Addr) (c : Nat) (xs : List Int) (hx : xs.length ≤ 9223372036854775807) (i : Int) (hi : I64 i) (w : World) (hs : SL w A xs) :
    Calls Tryd.prog 119 #[.slice A xs.length c, vi i] w fun e w' => e = .returned (vi (atI xs i)) ∧ w = w' := by
  obtain ⟨n, hn⟩ : ∃ n, n = xs.length := ⟨_, rfl⟩
  rw [← hn]
  rw [← hn] at hx
  have HN := Lib.hid hn
  clear hn
  by_cases h0 : i < 0
  · have hr : atI xs i = 0 := if_neg (by omega)
    have HR := Lib.hid hr
    clear hr
    go_enter Tryd.func119, Tryd.ntmps119
    go_wp2
    go_ret
    exact ⟨ret_int HR.out.symm, rfl⟩
  · obtain ⟨k, rfl⟩ := Int.eq_ofNat_of_zero_le (a := i) (by omega)
    have hr : atI xs (k : Int) = xs.getD k 0 := by rw [atI, if_pos (by omega)]; rfl
    by_cases hk : k < n
    · have hkx : k < xs.length := by rw [← HN.out]; exact hk
      obtain ⟨ad, rfl, _, hc⟩ := hs.at_ hkx
      rw [List.getD_eq_getElem?_getD, List.getElem?_eq_getElem hkx, Option.getD_some] at hr
      rw [← hr] at hc
      clear hr
      go_enter Tryd.func119, Tryd.ntmps119
      go_wp2
      go_ret
      exact ⟨rfl, rfl⟩
    · rw [List.getD_eq_getElem?_getD, List.getElem?_eq_none (by rw [← HN.out]; omega)] at hr
      have HR := Lib.hid hr
      clear hr
      go_enter Tryd.func119, Tryd.ntmps119
      go_wp2
      go_ret
      exact ⟨ret_int HR.out.symm, rfl⟩
end Go.Proofs.YtgmkcmahbefcoaaDoor

/- The walk of (*Domain).Values. -/
set_option linter.unusedVariables false
namespace Go.Proofs.YtgmkcmahbefcoaaDoor
open Go.RowKit Zp

/-- a root of a power of two: the half of its order makes -1 -/
theorem root_cond {p : Nat} [NeZero p] (hp : IsPrime p) {n : Nat} (h : SizeOk p n) {r : Fin p} (hr : Ord r n) : n = 1 ∨ ∃ m, n = 2 * m ∧ pw r m = -1 := by
  obtain ⟨⟨k, _, e⟩, _⟩ := h
  cases k with
  | zero => exact .inl e
  | succ k =>
    have e2 : n = 2 * 2 ^ k := by rw [e, Nat.pow_succ, Nat.mul_comm]
    rw [e2] at hr
    exact .inr ⟨2 ^ k, e2, ord_half hp (Nat.pow_pos (by omega)) hr⟩

def ValRel {p : Nat} [NeZero p] (s : Fin p) (n : Nat) (xs : List Int) (w : World) (g : Nat) (sh i : Value) (wr : World) : Prop := ∃ (k : Nat) (L : List (Fin p)), k ≤ xs.length ∧ i = vi k ∧ sh = vi (fv (pw s k)) ∧ OwnE wr w.heap.size g n L ∧ Wrapped s n (els p xs) k L ∧ Below w.heap.size w wr

set_option maxRecDepth 100000 in
set_option maxHeartbeats 2000000 in
theorem values_any (p S D b : Nat) [NeZero p] (n : Nat) (s : Fin p) (A : Option Addr) (cap : Nat) (xs : List Int) (hxs : ∀ x ∈ xs, I64 x) (hreach : xs.length * 8 ≤ 281474976710656) (w : World) (hD : Dom w S D b p n s) (hs : SL w A xs) :
    Calls Tryd.prog 64 #[.pointer (some ⟨D, 0, none⟩), .slice A xs.length cap] w fun e w' => Gives (fvs (valL s (rootI p n) n (els p xs))) w e w' := by
  have hp := hD.fld.prime
  have hp1 := hD.fld.two
  have hp2 := hD.fld.max
  have hn0 := hD.size.pos
  have hn1 := hD.size.le
  have hDle := hD.le
  have hc1 := hD.c1
  obtain ⟨len, hlen⟩ : ∃ len, len = xs.length := ⟨_, rfl⟩
  rw [← hlen]
  rw [← hlen] at hreach
  have HL := Lib.hid hlen
  clear hlen
  obtain ⟨R, hR⟩ : ∃ R, R = fvs (valL s (rootI p n) n (els p xs)) := ⟨_, rfl⟩
  rw [← hR]
  have HR := Lib.hid hR
  clear hR
  have hmk := make_ints n n (Nat.le_refl _) (by omega)
  have hOE := OwnE.made (p := p) w w.heap.size n (Nat.le_refl _) (by omega)
  go_enter Tryd.func64, Tryd.ntmps64
  go_wp2
  go_loopw [6, 16] (fun sh i wr => ValRel s n xs w w.heap.size sh i wr) (fun _ i _ => len - (intOf i).toNat)
  case atStart => exact ⟨0, _, Nat.zero_le _, rfl, by rw [pw_zero, fv_one hp1], hOE, Wrapped.start s n _, (Below.refl _ _).alloc (Nat.le_refl _) _⟩
  case round =>
    obtain ⟨k, L, hk, rfl, rfl, hoe, hwr, hb⟩ := hrel
    rw [← HL.out] at hk
    have HWR := Lib.hid hwr
    clear hwr
    have hDr := hD.below hb hDle
    have hd0 := hDr.c0
    have hd1 := hDr.c1
    have hd2 := hDr.c2
    have hd3 := hDr.c3
    have hcb := hDr.fld.c0
    by_cases hlt : k < len
    · have hkx : k < xs.length := by rw [← HL.out]; exact hlt
      obtain ⟨ad, rfl, _, hcell⟩ := (hs.below hb).at_ hkx
      have hI := hxs _ (List.getElem_mem hkx)
      have hxe : co (els p xs) k = el p xs[k] := by rw [co_of_lt (by simpa using hkx)]; simp
      obtain ⟨x, hx⟩ : ∃ x, x = xs[k] := ⟨_, rfl⟩
      rw [← hx] at hI hcell hxe
      obtain ⟨j, hj⟩ : ∃ j, j = k % n := ⟨_, rfl⟩
      have hjn : j < n := by rw [hj]; exact Nat.mod_lt _ hn0
      have hst := HWR.out.step hn0 (by simpa using hkx)
      rw [← hj, hxe] at hst
      obtain ⟨X, hX⟩ : ∃ X, X = pw s k := ⟨_, rfl⟩
      rw [← hX] at hst ⊢
      obtain ⟨Y, hY⟩ : ∃ Y, Y = X * el p x := ⟨_, rfl⟩
      obtain ⟨o, ho⟩ : ∃ o, o = co L j := ⟨_, rfl⟩
      obtain ⟨U, hU⟩ : ∃ U, U = o + Y := ⟨_, rfl⟩
      rw [← hY, ← ho, ← hU] at hst
      have hol := hoe.at_ j hjn
      rw [← ho] at hol
      have hof := hoe.frozen j
      have iX : I64 (fv X) := i64_fv X hp2
      have iY : I64 (fv Y) := i64_fv Y hp2
      have io : I64 (fv o) := i64_fv o hp2
      have iS : I64 (fv s) := i64_fv s hp2
      have hmul : ∀ W : World, W.cell? ⟨b, 0, none⟩ = some (vi p) → Calls Tryd.prog 47 #[.pointer (some ⟨b, 0, none⟩), vi (fv X), vi x] W fun e w' => e = .returned (vi (fv Y)) ∧ ∃ k, w' = W.drewN k := fun W h => by
        have := mul_any p hp2 b (fv X) x iX hI W h
        rw [el_fv, ← hY] at this; exact this
      have hadd : ∀ W : World, W.cell? ⟨b, 0, none⟩ = some (vi p) → Calls Tryd.prog 44 #[.pointer (some ⟨b, 0, none⟩), vi (fv o), vi (fv Y)] W fun e w' => e = .returned (vi (fv U)) ∧ ∃ k, w' = W.drewN k := fun W h => by
        have := add_any p hp2 b (fv o) (fv Y) io iY W h
        rw [el_fv, el_fv, ← hU] at this; exact this
      have hX1 : X * s = pw s (k + 1) := by rw [hX, pw_succ]
      have hnx : ∀ W : World, W.cell? ⟨b, 0, none⟩ = some (vi p) → Calls Tryd.prog 47 #[.pointer (some ⟨b, 0, none⟩), vi (fv X), vi (fv s)] W fun e w' => e = .returned (vi (fv (pw s (k + 1)))) ∧ ∃ k, w' = W.drewN k := fun W h => by
        have := mul_any p hp2 b (fv X) (fv s) iX iS W h
        rw [el_fv, el_fv, hX1] at this; exact this
      have HMUL := Lib.hid hmul
      have HADD := Lib.hid hadd
      have HNX := Lib.hid hnx
      have HST := Lib.hid hst
      have et : (k : Int).tmod n = (j : Int) := by rw [Int.tmod_eq_emod_of_nonneg (by omega), hj, Int.natCast_emod]
      have hn0' : ¬ n = 0 := by omega
      have i1 : (0 : Int) ≤ j := by omega
      have i2 : (j : Int) < n := by omega
      have hne1 : ¬ D = w.heap.size := by have := hD.lt; omega
      have hne2 : ¬ b = w.heap.size := by have := hD.fld.lt; omega
      clear hmul hadd hnx hst hX1 hU ho hY hX hj hx hxe
      have hmx : Tryd.prog.follows .mixedOrders = true := by kernel_rfl
      go_wp2
      refine wp_region_quiet_tail 29 hmx (by kernel_rfl) ?_
      simp only [List.take_succ_cons, List.take_zero, List.drop_succ_cons, List.drop_zero]
      repeat (quiet_step (first | (go_at_call 47; exact Calls.quiet_of (HMUL.out _ (by exact hcb))) | (go_at_call 44; exact Calls.quiet_of (HADD.out _ (by exact hcb)))))
      refine wpQuiet_nil ?_
      intro _ hw'
      obtain ⟨nq1, hw''⟩ := hw'
      subst hw''
      clear et i1 i2
      go_wp2
      go_quiet ((go_at_call 47; exact Calls.quiet_of (HNX.out _ (by exact setCell_keep hcb hne2))))
      go_wp2
      go_roundw
      case rel =>
        have h1 : OwnE (wr.drewN nq1) w.heap.size w.heap.size n L := hoe
        exact ⟨k + 1, L.set j U, by rw [← HL.out]; omega, by go_num, rfl, h1.store j U, HST.out, below_drewN ((below_drewN hb nq1).setCell (p := ⟨w.heap.size, j, none⟩) (Nat.le_refl _) _) _⟩
      case measure => simp [intOf]; omega
    · obtain rfl : k = len := by omega
      have hord := rootI_ord hp hn0 hD.size.2
      have hcond := root_cond hp hD.size hord
      have hdone := (show Wrapped s n (els p xs) (els p xs).length L by rw [List.length_map, ← HL.out]; exact HWR.out).done hord.one
      obtain ⟨⟨kk, hkk, hnk⟩, _⟩ := hD.size
      have hsp := spread_any p S D b n s kk hkk
      rw [← hnk] at hsp
      have hrun := hsp wr w.heap.size (.slice (some ⟨w.heap.size, 0, none⟩) n n) (fvs L) (fv (rootI p n)) (by simp [hoe.1]) (i64_fvs L hp2) (i64_fv _ hp2) (by rw [el_fv]; exact hcond) hDr hoe.2 hb.size
      have HRUN := Lib.hid hrun
      have HDONE := Lib.hid hdone
      clear hsp hrun hdone hcond hord hnk hd0 hd1 hd2 hcb
      go_wp2_with fail
      refine (HRUN.out).mono ?_
      rintro e w1 ⟨v1, ys, rfl, hown, _, hyd, hy1, hy2, hb1⟩
      rw [el_fv, els_fvs, HDONE.out] at hyd hy2
      have hys : ys = R := by
        rw [HR.out]
        by_cases h1 : n = 1
        · rw [hy1 h1, ← hyd, hy1 h1, els_fvs]
        · exact hy2 h1
      obtain ⟨A1, c1, rfl, hl1, hm1, _, hsl⟩ := hown.shape
      clear hyd hy1 hy2
      subst hys
      have hm2 : c1 ≤ 9223372036854775807 := by unfold maxLen at hm1; exact hm1
      go_wp2_with fail
      refine (clip_any A1 ys.length c1 hl1 hm2 _).mono ?_
      rintro e w2 ⟨rfl, rfl⟩
      go_wp2
      go_ret
      exact ⟨A1, ys.length, rfl, Nat.le_refl _, Nat.le_trans hl1 hm1, hsl, hb.trans (hb1.mono hb.size)⟩

/-- a slice of n ints that is read alone -/
def GivesN (n : Nat) (xs : List Int) (w : World) (e : Ending) (w' : World) : Prop := ∃ A c, xs.length = n ∧ e = .returned (.slice A n c) ∧ n ≤ c ∧ c ≤ maxLen ∧ SL w' A xs ∧ Below w.heap.size w w'
theorem Gives.n {xs : List Int} {w w' : World} {e : Ending} (h : Gives xs w e w') {n : Nat} (hn : xs.length = n) : GivesN n xs w e w' := by
  obtain ⟨A, c, h1, h2, h3, h4, h5⟩ := h
  subst hn
  exact ⟨A, c, rfl, h1, h2, h3, h4, h5⟩
theorem values_n (p S D b : Nat) [NeZero p] (n : Nat) (s : Fin p) (A : Option Addr) (m cap : Nat) (xs : List Int) (hml : xs.length = m) (hxs : ∀ x ∈ xs, I64 x) (hreach : m * 8 ≤ 281474976710656) (w : World) (hD : Dom w S D b p n s) (hs : SL w A xs) :
    Calls Tryd.prog 64 #[.pointer (some ⟨D, 0, none⟩), .slice A m cap] w fun e w' => GivesN n (fvs (valL s (rootI p n) n (els p xs))) w e w' := by
  subst hml
  exact (values_any p S D b n s A cap xs hxs hreach w hD hs).mono fun _ _ h => h.n (by simp [valL_length])
theorem SL.co {p : Nat} [NeZero p] {w : World} {A : Option Addr} {l : List (Fin p)} (h : SL w A (fvs l)) {k : Nat} (hk : k < l.length) : ∃ ad, A = some ad ∧ w.cell? (ad.add k) = some (vi (fv (co l k))) := by
  obtain ⟨ad, h1, _, h2⟩ := h.at_ (k := k) (by simpa using hk)
  exact ⟨ad, h1, by rw [h2, co_of_lt hk, List.getElem_map]⟩
end Go.Proofs.YtgmkcmahbefcoaaDoor

/- Walks: bits.Len of powers of two, sums.variables. -/
set_option linter.unusedVariables false
namespace Go.Proofs.YtgmkcmahbefcoaaDoor
open Go.RowKit Zp

set_option maxRecDepth 1000000 in
set_option maxHeartbeats 1000000 in
theorem len64_0 (w : World) :
    Calls Tryd.prog 114 #[.int .u64 1] w fun e w' => e = .returned (vi 1) ∧ w = w' := by
  go_enter Tryd.func114, Tryd.ntmps114
  go_wp2
  go_ret
  exact ⟨ret_int (by kernel_rfl), rfl⟩
set_option maxRecDepth 1000000 in
set_option maxHeartbeats 1000000 in
theorem len64_1 (w : World) :
    Calls Tryd.prog 114 #[.int .u64 2] w fun e w' => e = .returned (vi 2) ∧ w = w' := by
  go_enter Tryd.func114, Tryd.ntmps114
  go_wp2
  go_ret
  exact ⟨ret_int (by kernel_rfl), rfl⟩
set_option maxRecDepth 1000000 in
set_option maxHeartbeats 1000000 in
theorem len64_2 (w : World) :
    Calls Tryd.prog 114 #[.int .u64 4] w fun e w' => e = .returned (vi 3) ∧ w = w' := by
  go_enter Tryd.func114, Tryd.ntmps114
  go_wp2
  go_ret
  exact ⟨ret_int (by kernel_rfl), rfl⟩
set_option maxRecDepth 1000000 in
set_option maxHeartbeats 1000000 in
theorem len64_3 (w : World) :
    Calls Tryd.prog 114 #[.int .u64 8] w fun e w' => e = .returned (vi 4) ∧ w = w' := by
  go_enter Tryd.func114, Tryd.ntmps114
  go_wp2
  go_ret
  exact ⟨ret_int (by kernel_rfl), rfl⟩
set_option maxRecDepth 1000000 in
set_option maxHeartbeats 1000000 in
theorem len64_4 (w : World) :
    Calls Tryd.prog 114 #[.int .u64 16] w fun e w' => e = .returned (vi 5) ∧ w = w' := by
  go_enter Tryd.func114, Tryd.ntmps114
  go_wp2
  go_ret
  exact ⟨ret_int (by kernel_rfl), rfl⟩
set_option maxRecDepth 1000000 in
set_option maxHeartbeats 1000000 in
theorem len64_5 (w : World) :
    Calls Tryd.prog 114 #[.int .u64 32] w fun e w' => e = .returned (vi 6) ∧ w = w' := by
  go_enter Tryd.func114, Tryd.ntmps114
  go_wp2
  go_ret
  exact ⟨ret_int (by kernel_rfl), rfl⟩
set_option maxRecDepth 1000000 in
set_option maxHeartbeats 1000000 in
theorem len64_6 (w : World) :
    Calls Tryd.prog 114 #[.int .u64 64] w fun e w' => e = .returned (vi 7) ∧ w = w' := by
  go_enter Tryd.func114, Tryd.ntmps114
  go_wp2
  go_ret
  exact ⟨ret_int (by kernel_rfl), rfl⟩
set_option maxRecDepth 1000000 in
set_option maxHeartbeats 1000000 in
theorem len64_7 (w : World) :
    Calls Tryd.prog 114 #[.int .u64 128] w fun e w' => e = .returned (vi 8) ∧ w = w' := by
  go_enter Tryd.func114, Tryd.ntmps114
  go_wp2
  go_ret
  exact ⟨ret_int (by kernel_rfl), rfl⟩
set_option maxRecDepth 1000000 in
set_option maxHeartbeats 1000000 in
theorem len64_8 (w : World) :
    Calls Tryd.prog 114 #[.int .u64 256] w fun e w' => e = .returned (vi 9) ∧ w = w' := by
  go_enter Tryd.func114, Tryd.ntmps114
  go_wp2
  go_ret
  exact ⟨ret_int (by kernel_rfl), rfl⟩
set_option maxRecDepth 1000000 in
set_option maxHeartbeats 1000000 in
theorem len64_9 (w : World) :
    Calls Tryd.prog 114 #[.int .u64 512] w fun e w' => e = .returned (vi 10) ∧ w = w' := by
  go_enter Tryd.func114, Tryd.ntmps114
  go_wp2
  go_ret
  exact ⟨ret_int (by kernel_rfl), rfl⟩
set_option maxRecDepth 1000000 in
set_option maxHeartbeats 1000000 in
theorem len64_10 (w : World) :
    Calls Tryd.prog 114 #[.int .u64 1024] w fun e w' => e = .returned (vi 11) ∧ w = w' := by
  go_enter Tryd.func114, Tryd.ntmps114
  go_wp2
  go_ret
  exact ⟨ret_int (by kernel_rfl), rfl⟩
set_option maxRecDepth 1000000 in
set_option maxHeartbeats 1000000 in
theorem len64_11 (w : World) :
    Calls Tryd.prog 114 #[.int .u64 2048] w fun e w' => e = .returned (vi 12) ∧ w = w' := by
  go_enter Tryd.func114, Tryd.ntmps114
  go_wp2
  go_ret
  exact ⟨ret_int (by kernel_rfl), rfl⟩
set_option maxRecDepth 1000000 in
set_option maxHeartbeats 1000000 in
theorem len64_12 (w : World) :
    Calls Tryd.prog 114 #[.int .u64 4096] w fun e w' => e = .returned (vi 13) ∧ w = w' := by
  go_enter Tryd.func114, Tryd.ntmps114
  go_wp2
  go_ret
  exact ⟨ret_int (by kernel_rfl), rfl⟩
theorem len_pow (n v : Nat) (h : Cube n v) (w : World) :
    Calls Tryd.prog 93 #[.int .u64 n] w fun e w' => e = .returned (vi ((v : Int) + 1)) ∧ w = w' := by
  obtain ⟨hv, rfl⟩ := h
  have H : ∀ W, Calls Tryd.prog 114 #[.int .u64 ((2 ^ v : Nat) : Int)] W fun e w' => e = .returned (vi ((v : Int) + 1)) ∧ W = w' := by
    intro W
    rcases v with _ | _ | _ | _ | _ | _ | _ | _ | _ | _ | _ | _ | _ | v
    · exact len64_0 W
    · exact len64_1 W
    · exact len64_2 W
    · exact len64_3 W
    · exact len64_4 W
    · exact len64_5 W
    · exact len64_6 W
    · exact len64_7 W
    · exact len64_8 W
    · exact len64_9 W
    · exact len64_10 W
    · exact len64_11 W
    · exact len64_12 W
    · omega
  obtain ⟨n, hn⟩ : ∃ n, n = 2 ^ v := ⟨_, rfl⟩
  rw [← hn] at H ⊢
  have h1 : 1 ≤ n := by rw [hn]; exact Nat.pow_pos (by omega)
  have h2 : n ≤ 4096 := by rw [hn]; exact Nat.pow_le_pow_right (n := 2) (by omega) hv
  have h3 := Lib.hid H
  clear H hn
  go_enter Tryd.func93, Tryd.ntmps93
  go_wp2_with fail
  refine (h3.out _).mono ?_
  rintro e w' ⟨rfl, rfl⟩
  go_wp2
  go_ret
  exact ⟨rfl, rfl⟩

theorem variables_yes (A : Option Addr) (n cap v : Nat) (h : Cube n v) (w : World) :
    Calls Tryd.prog 69 #[.slice A n cap] w fun e w' => e = .returned (vi (v : Int)) ∧ w = w' := by
  have h1 := h.pos
  have h2 := h.le
  have hv := h.1
  have t0 : ((n : Int) == 0) = false := by rw [beq_eq_false_iff_ne]; omega
  have t1 : (bits .and .i64 (n : Int) ((n : Int) - 1) != 0) = false := by rw [and_pred n h1 (by omega), h.and]; rfl
  have hl := Lib.hid (len_pow n v h)
  clear h
  go_enter Tryd.func69, Tryd.ntmps69
  go_wp2_with fail
  refine (hl.out _).mono ?_
  rintro e w' ⟨rfl, rfl⟩
  go_wp2
  go_ret
  exact ⟨ret_int (by omega), rfl⟩

theorem variables_no (A : Option Addr) (n cap : Nat) (hn : n < 9223372036854775808) (h : ¬ IsCube n) (w : World) :
    Calls Tryd.prog 69 #[.slice A n cap] w fun e w' => e = .returned (vi (-1)) ∧ w = w' := by
  rw [isCube_iff] at h
  by_cases h1 : n = 0
  · have t0 : ((n : Int) == 0) = true := by rw [h1]; rfl
    clear h h1
    go_enter Tryd.func69, Tryd.ntmps69
    go_wp2
    go_ret
    exact ⟨rfl, rfl⟩
  · have t0 : ((n : Int) == 0) = false := by rw [beq_eq_false_iff_ne]; omega
    by_cases h2 : n ≤ 4096
    · have ha := and_pred n (by omega) (by omega)
      have t1 : (bits .and .i64 (n : Int) ((n : Int) - 1) != 0) = true := by
        rw [ha, bne_iff_ne]
        intro e
        exact h ⟨by omega, by omega, h2⟩
      clear h h1 ha
      go_enter Tryd.func69, Tryd.ntmps69
      go_wp2
      go_ret
      exact ⟨rfl, rfl⟩
    · have h3 : 4096 < n := by omega
      have hw : IntKind.i64.wrap ((n : Int) - 1) = (n : Int) - 1 := IntWalk.i64_in _ (by constructor <;> omega)
      clear h h1 h2
      cases t1 : (bits .and .i64 (n : Int) ((n : Int) - 1) != 0)
      · go_enter Tryd.func69, Tryd.ntmps69
        go_wp2
        go_ret
        exact ⟨rfl, rfl⟩
      · go_enter Tryd.func69, Tryd.ntmps69
        go_wp2
        go_ret
        exact ⟨rfl, rfl⟩
end Go.Proofs.YtgmkcmahbefcoaaDoor

/- Walks: Point, Half, fold.one, folded, Fold. -/
set_option linter.unusedVariables false
namespace Go.Proofs.YtgmkcmahbefcoaaDoor
open Go.RowKit Zp

set_option maxRecDepth 100000 in
set_option maxHeartbeats 1000000 in
theorem point_any (p S D b : Nat) [NeZero p] (n : Nat) (s : Fin p) (i : Int) (hi : I64 i) (w : World) (hD : Dom w S D b p n s) :
    Calls Tryd.prog 110 #[.pointer (some ⟨D, 0, none⟩), vi i] w fun e w' => e = .returned (vi (fv (s * pw (rootI p n) (i % (n : Int)).toNat))) ∧ ∃ k, w' = w.drewN k := by
  have hp1 := hD.fld.two
  have hp2 := hD.fld.max
  have hn0 := hD.size.pos
  have hn1 := hD.size.le
  have hd0 := hD.c0
  have hd1 := hD.c1
  have hd2 := hD.c2
  have hd3 := hD.c3
  have hcb := hD.fld.c0
  obtain ⟨r, hr⟩ : ∃ r, r = rootI p n := ⟨_, rfl⟩
  rw [← hr] at hd3 ⊢
  obtain ⟨j, hj⟩ : ∃ j, j = (i % (n : Int)).toNat := ⟨_, rfl⟩
  rw [← hj]
  have ht := tmod_emod i n hn0
  have h1 := Int.emod_nonneg i (b := (n : Int)) (by omega)
  have h2 := Int.emod_lt_of_pos i (b := (n : Int)) (by omega)
  have hjI : I64 (j : Int) := ⟨by omega, by omega⟩
  have hz : zpw r (j : Int) = pw r j := by rw [zpw, if_pos (by omega), Int.toNat_natCast]
  have hpow := fun W hc => pow_any p hp1 hp2 b (fv r) j (i64_fv r hp2) hjI W hc
  rw [el_fv, hz] at hpow
  have hmul := fun W hc => mul_any p hp2 b (fv s) (fv (pw r j)) (i64_fv s hp2) (i64_fv _ hp2) W hc
  rw [el_fv, el_fv] at hmul
  have HPOW := Lib.hid hpow
  have HMUL := Lib.hid hmul
  have hn0' : ¬ n = 0 := by omega
  obtain ⟨T, hT⟩ : ∃ T, T = i.tmod n := ⟨_, rfl⟩
  have b1 : -(n : Int) < T := by rw [hT, ht]; split <;> (try split) <;> omega
  have b2 : T < n := by rw [hT, ht]; split <;> (try split) <;> omega
  have hTj : T = j ∨ (T < 0 ∧ T + n = j) := by
    rw [hT, ht]
    split
    · left; omega
    · split
      · left; omega
      · right; omega
  have et : i.tmod (n : Int) = T := hT.symm
  clear hpow hmul hz ht hj hT hr
  rcases hTj with hTj | ⟨hT0, hTj⟩
  · subst hTj
    go_enter Tryd.func110, Tryd.ntmps110
    go_wp2
    go_quiet ((first | (go_at_call 121; exact Calls.quiet_of (HPOW.out _ (by exact hcb))) | (go_at_call 47; exact Calls.quiet_of (HMUL.out _ (by exact hcb)))))
    go_wp2
    go_ret
    exact ⟨rfl, _, rfl⟩
  · go_enter Tryd.func110, Tryd.ntmps110
    go_wp2
    go_quiet ((first | (go_at_call 121; exact Calls.quiet_of (HPOW.out _ (by exact hcb))) | (go_at_call 47; exact Calls.quiet_of (HMUL.out _ (by exact hcb)))))
    go_wp2
    go_ret
    exact ⟨rfl, _, rfl⟩

set_option maxRecDepth 100000 in
set_option maxHeartbeats 2000000 in
theorem one_any (p S D b : Nat) [NeZero p] (n : Nat) (s : Fin p) (i : Nat) (hin : i < n) (x y r : Int) (hx : I64 x) (hy : I64 y) (hr : I64 r) (w : World) (hD : Dom w S D b p n s) :
    Calls Tryd.prog 84 #[.pointer (some ⟨D, 0, none⟩), vi i, vi x, vi y, vi r] w fun e w' => e = .returned (vi (fv (foldE (el p x) (el p y) (el p r) (s * pw (rootI p n) i)))) ∧ ∃ k, w' = w.drewN k := by
  have hp1 := hD.fld.two
  have hp2 := hD.fld.max
  have hn1 := hD.size.le
  have hd0 := hD.c0
  have hcb := hD.fld.c0
  have hiI : I64 (i : Int) := ⟨by omega, by omega⟩
  have hpt := fun k => point_any p S D b n s i hiI (w.drewN k) (hD.drewN k)
  have ej : ((i : Int) % (n : Int)).toNat = i := by rw [Int.emod_eq_of_lt (by omega) (by omega)]; rfl
  rw [ej] at hpt
  have HPT := Lib.hid hpt
  obtain ⟨X, hX⟩ : ∃ X, X = s * pw (rootI p n) i := ⟨_, rfl⟩
  rw [← hX] at HPT ⊢
  have h2I : I64 2 := by constructor <;> decide
  clear hpt ej hX
  go_enter Tryd.func84, Tryd.ntmps84
  go_wp2_with fail
  refine (inv_any p hp1 hp2 b 2 h2I _ hcb).mono ?_
  rintro e w' ⟨rfl, rfl⟩
  go_wp2
  have iH := i64_fv (Zp.inv (el p 2)) hp2
  go_quiet ((first | (go_at_call 44; exact Calls.quiet_of (add_any p hp2 b _ _ (by first | assumption | exact i64_fv _ hp2) (by first | assumption | exact i64_fv _ hp2) _ (by exact hcb))) | (go_at_call 47; exact Calls.quiet_of (mul_any p hp2 b _ _ (by first | assumption | exact i64_fv _ hp2) (by first | assumption | exact i64_fv _ hp2) _ (by exact hcb)))))
  go_wp2
  go_quiet ((first | (go_at_call 94; exact quiet_eq2 (sub_any p hp2 b _ _ (by first | assumption | exact i64_fv _ hp2) (by first | assumption | exact i64_fv _ hp2) _ (by exact hcb))) | (go_at_call 47; exact quiet_of2 (mul_any p hp2 b _ _ (by first | assumption | exact i64_fv _ hp2) (by first | assumption | exact i64_fv _ hp2) _ (by exact hcb))) | (go_at_call 110; exact quiet_of2 (HPT.out _)) | (go_at_call 99; exact quiet_eq2 (inv_any p hp1 hp2 b _ (by first | assumption | exact i64_fv _ hp2) _ (by exact hcb)))))
  go_wp2
  go_quiet ((first | (go_at_call 44; exact quiet_of2 (add_any p hp2 b _ _ (by first | assumption | exact i64_fv _ hp2) (by first | assumption | exact i64_fv _ hp2) _ (by exact hcb))) | (go_at_call 47; exact quiet_of2 (mul_any p hp2 b _ _ (by first | assumption | exact i64_fv _ hp2) (by first | assumption | exact i64_fv _ hp2) _ (by exact hcb)))))
  go_wp2
  go_ret
  exact ⟨ret_int (by simp only [el_fv]; rfl), _, (World.drewN_drewN _ _ _).trans (World.drewN_drewN _ _ _)⟩


def FoldRel {p : Nat} [NeZero p] (l : List (Fin p)) (h : Nat) (w : World) (v i : Value) (wr : World) : Prop := ∃ k g : Nat, k ≤ h ∧ i = vi k ∧ v = .slice (some ⟨g, 0, none⟩) k h ∧ Own wr w.heap.size v ((fvs l).take k) ∧ Below w.heap.size w wr

/-- append of one int within the capacity, at a step of a region that draws its order -/
theorem step_app1_fits {ops : Array Oper} {o : Oper} {a : Act} {K : Act → World → Prop} {Q : Exit → Act → World → Prop} {E : Prop} (w W : World) (n : Int) (hW : W = w.alloc (.cells #[vi n] 3)) (hgd : o.guard = none) (s x : Operand)
    (ho : o.op = .call { callee := .builtin .append, args := #[s, x], argTypes := #[23, 23] })
    (base g k cap : Nat) (xs : List Int) (hs : a.eval s = .slice (some ⟨g, 0, none⟩) k cap) (hx : a.eval x = .slice (some ⟨w.heap.size, 0, none⟩) 1 1) (hown : Own w base (.slice (some ⟨g, 0, none⟩) k cap) xs) (hk : k = xs.length) (hroom : k < cap)
    (h : ∀ w', Own w' base (.slice (some ⟨g, 0, none⟩) (k + 1) cap) (xs ++ [n]) → w.grownBy w' (some g) → K (a.put o.dst (.slice (some ⟨g, 0, none⟩) (k + 1) cap)) w') :
    if Region.wanted o (yielded ops a.tmps) = true then Oper.wp Tryd.prog o a W K Q else E := by
  have hw : Region.wanted o (yielded ops a.tmps) = true := by simp [Region.wanted, hgd]
  rw [if_pos hw]
  subst hk hW
  obtain ⟨i0, hi, hz0, hz1, hz2⟩ := info_parts info_int
  obtain ⟨w', hrun, h2, h3⟩ := run_append_fits (P := Tryd.prog) (w.alloc (.cells #[vi n] 3)) base 23 o.type 3 i0 1 Tryd.underlying23 hi hz1 g xs.length cap (xs.map vi) (hown.alloc _)
    ⟨w.heap.size, 0, none⟩ 1 1 [vi n] rfl (cell_one_new _ _ _) (by simp [Value.oneCell']) (by omega)
  unfold Oper.wp execOp
  simp only [ho, resolve, invoke, builtin, Sem.run_bind, Sem.run_pure, Result.andThen_ok, List.map_toArray, List.map_cons, List.map_nil, hs, hx, hrun]
  refine h w' ?_ (grownBy_trans (World.grownBy_alloc w _ _) h3)
  have e : (xs ++ [n]).length = xs.length + 1 := by simp
  rw [Own, e, List.map_append]
  exact h2

set_option maxRecDepth 100000 in
set_option maxHeartbeats 2000000 in
theorem folded_any (p S D b : Nat) [NeZero p] (n h : Nat) (hn : n = 2 * h) (hh : 0 < h) (s : Fin p) (A : Option Addr) (cap : Nat) (xs : List Int) (hml : xs.length = n) (hxs : ∀ x ∈ xs, I64 x) (r : Int) (hr : I64 r) (w : World) (hD : Dom w S D b p n s) (hs : SL w A xs) :
    Calls Tryd.prog 56 #[.pointer (some ⟨D, 0, none⟩), .slice A n cap, vi r] w fun e w' => Made (fvs (foldL s (rootI p n) h (els p xs) (el p r))) w e w' := by
  have hp2 := hD.fld.max
  have hn1 := hD.size.le
  have hd1 := hD.c1
  have hmk := make_ints0 h (by omega)
  have hone := fun (i : Nat) (hi : i < n) (x y : Int) (hx : I64 x) (hy : I64 y) (W : World) hDW => one_any p S D b n s i hi x y r hx hy hr W hDW
  have HONE := Lib.hid hone
  have hDle := hD.le
  have HML := Lib.hid hml
  have HN := Lib.hid hn
  have hhn : h < n := by omega
  obtain ⟨l, hl⟩ : ∃ l, l = foldL s (rootI p n) h (els p xs) (el p r) := ⟨_, rfl⟩
  rw [← hl]
  have hll : l.length = h := by rw [hl, foldL_length]
  have HLL := Lib.hid hll
  have HL := Lib.hid hl
  have t2 : (n : Int).tdiv 2 = (h : Int) := by rw [Int.tdiv_eq_ediv_of_nonneg (by omega)]; omega
  have t3 : (n : Int) / 2 = (h : Int) := by omega
  clear hone hml hn hl hll
  go_enter Tryd.func56, Tryd.ntmps56
  go_wp2_with fail
  refine (size_any D n _ hd1).mono ?_
  rintro e w' ⟨rfl, rfl⟩
  go_wp2
  clear t2 t3
  go_loopw [8, 16] (fun v i wr => FoldRel l h w v i wr) (fun _ i _ => h - (intOf i).toNat)
  case atStart => exact ⟨0, w.heap.size, Nat.zero_le _, rfl, rfl, own_made0 w _ h (Nat.le_refl _) (by omega), (Below.refl _ _).alloc (Nat.le_refl _) _⟩
  case round =>
    obtain ⟨k, g, hk, rfl, rfl, hown, hb⟩ := hrel
    have hDr := hD.below hb hDle
    by_cases hkh : k < h
    · have hsw := hs.below hb
      have hkx : k < xs.length := by rw [HML.out]; omega
      have hkx2 : k + h < xs.length := by rw [HML.out, HN.out]; omega
      obtain ⟨ad, rfl, _, hc1⟩ := hsw.at_ hkx
      obtain ⟨ad', he, _, hc2⟩ := hsw.at_ hkx2
      injection he with he
      subst he
      obtain ⟨ad2, he2, hab, _⟩ := hs.at_ hkx
      injection he2 with he2
      subst he2
      have hgl := (hown.lt g rfl).1
      have hk1 : some (ad.add k).block ≠ some g := by rw [block_of_add]; intro e; injection e with e; omega
      have hk2 : some (ad.add (k + h)).block ≠ some g := by rw [block_of_add]; intro e; injection e with e; omega
      have ix := hxs _ (List.getElem_mem hkx)
      have iy := hxs _ (List.getElem_mem hkx2)
      have hcx : co (els p xs) k = el p xs[k] := by rw [co_of_lt (by simpa using hkx)]; simp
      have hcy : co (els p xs) (k + h) = el p xs[k + h] := by rw [co_of_lt (by simpa using hkx2)]; simp
      have h2 := map_take_succ fv l k (by rw [HLL.out]; exact hkh)
      have h3 : l[k]'(by rw [HLL.out]; exact hkh) = foldE (co (els p xs) k) (co (els p xs) (k + h)) (el p r) (s * pw (rootI p n) k) := by
        rw [← co_of_lt (by rw [HLL.out]; exact hkh), HL.out, foldL, co_tab, if_pos hkh]
      obtain ⟨x, hx⟩ : ∃ x, x = xs[k] := ⟨_, rfl⟩
      obtain ⟨y, hy⟩ : ∃ y, y = xs[k + h] := ⟨_, rfl⟩
      rw [← hx] at hc1 ix hcx
      rw [← hy] at hc2 iy hcy
      rw [h3, hcx, hcy] at h2
      have h1 := fun W hDW => HONE.out k (by omega) x y ix iy W hDW
      obtain ⟨Z, hZ⟩ : ∃ Z, Z = foldE (el p x) (el p y) (el p r) (s * pw (rootI p n) k) := ⟨_, rfl⟩
      rw [← hZ] at h1 h2
      have hlk : ((fvs l).take k).length = k := by rw [List.length_take, List.length_map, HLL.out]; omega
      have H1 := Lib.hid h1
      have H2 := Lib.hid h2
      have HLK := Lib.hid hlk
      have i1 : (0 : Int) ≤ k := by omega
      have i2 : (k : Int) < n := by omega
      have i3 : (0 : Int) ≤ (k : Int) + h := by omega
      have i4 : (k : Int) + h < n := by have := HN.out; omega
      have i5 : ((k : Int) + h).toNat = k + h := by omega
      have i6 : IntKind.i64.wrap ((k : Int) + h) = (k : Int) + h := IntWalk.i64_in _ (by constructor <;> omega)
      clear h1 h2 h3 hx hy hcx hcy hZ hlk
      go_wp2
      go_region_held3 (fun w' => w'.cell? (ad.add k) = some (vi x) ∧ w'.cell? (ad.add (k + h)) = some (vi y)) (first | exact ⟨hc1, hc2⟩ | go_keep | exact ⟨hg.cell hc1 hk1, hg.cell hc2 hk2⟩) ((first | (go_at_call 84; refine (H1.out _ (hDr.drewN _)).mono ?_; rintro e w' ⟨rfl, k3, rfl⟩) | (refine step_app1_fits _ _ (fv Z) (by rfl) (by rfl) _ _ (by rfl) w.heap.size g k h _ (by rfl) (by rfl) (hown.drewN _) HLK.out.symm hkh ?_; intro w1 hown1 hg)))
      go_wp2
      go_roundw
      case rel => exact ⟨k + 1, g, by omega, by go_num, rfl, by rw [← H2.out]; exact hown1, (below_drewN hb _).grown hg hb.size (fun j hj => by injection hj with hj; subst hj; exact hgl)⟩
      case measure => simp [intOf]; omega
    · obtain rfl : k = h := by omega
      go_wp2
      go_ret
      rw [List.take_of_length_le (by rw [List.length_map, HLL.out]; exact Nat.le_refl _)] at hown
      exact ⟨_, rfl, hown, hb⟩

abbrev NoFold (k : Int) : Ending := .returned (.tuple #[.slice none 0 0, .iface 70 (.int .i64 k)])
theorem fold_no (D n : Nat) (A : Option Addr) (m cap : Nat) (r : Int) (h : n = 1 ∨ m ≠ n) (w : World) (hc : w.cell? ⟨D, 1, none⟩ = some (vi n)) :
    Calls Tryd.prog 21 #[.pointer (some ⟨D, 0, none⟩), .slice A m cap, vi r] w fun e w' => e = NoFold 2 ∧ w = w' := by
  have hsz := size_any D n w hc
  have HSZ := Lib.hid hsz
  clear hsz
  by_cases h1 : n = 1
  · have t1 : ((n : Int) == 1) = true := by rw [h1]; rfl
    clear h h1
    go_enter Tryd.func21, Tryd.ntmps21
    go_wp2_with fail
    refine (HSZ.out).mono ?_
    rintro e w' ⟨rfl, rfl⟩
    go_wp2
    go_ret2
    exact ⟨rfl, rfl⟩
  · have t1 : ((n : Int) == 1) = false := by rw [beq_eq_false_iff_ne]; omega
    have t2 : ((m : Int) != (n : Int)) = true := by rw [bne_iff_ne]; omega
    clear h h1
    go_enter Tryd.func21, Tryd.ntmps21
    go_wp2_with fail
    refine (HSZ.out).mono ?_
    rintro e w' ⟨rfl, rfl⟩
    go_wp2_with fail
    refine (HSZ.out).mono ?_
    rintro e w' ⟨rfl, rfl⟩
    go_wp2
    go_ret2
    exact ⟨rfl, rfl⟩

/-- a word of the call's own, and no error -/
def MadeE (xs : List Int) (w : World) (e : Ending) (w' : World) : Prop := ∃ v, e = .returned (.tuple #[v, .nilIface]) ∧ Own w' w.heap.size v xs ∧ Below w.heap.size w w'
theorem fold_any (p S D b : Nat) [NeZero p] (n h : Nat) (hn : n = 2 * h) (hh : 0 < h) (s : Fin p) (A : Option Addr) (cap : Nat) (xs : List Int) (hml : xs.length = n) (hxs : ∀ x ∈ xs, I64 x) (r : Int) (hr : I64 r) (w : World) (hD : Dom w S D b p n s) (hs : SL w A xs) :
    Calls Tryd.prog 21 #[.pointer (some ⟨D, 0, none⟩), .slice A n cap, vi r] w fun e w' => MadeE (fvs (foldL s (rootI p n) h (els p xs) (el p r))) w e w' := by
  have hsz := size_any D n w hD.c1
  have HSZ := Lib.hid hsz
  have hf := folded_any p S D b n h hn hh s A cap xs hml hxs r hr w hD hs
  have HF := Lib.hid hf
  have t1 : ((n : Int) == 1) = false := by rw [beq_eq_false_iff_ne]; omega
  have t2 : ((n : Int) != (n : Int)) = false := by simp
  clear hsz hf hml hn
  go_enter Tryd.func21, Tryd.ntmps21
  go_wp2_with fail
  refine (HSZ.out).mono ?_
  rintro e w' ⟨rfl, rfl⟩
  go_wp2_with fail
  refine (HSZ.out).mono ?_
  rintro e w' ⟨rfl, rfl⟩
  go_wp2_with fail
  refine (HF.out).mono ?_
  rintro e w1 ⟨v, rfl, hown, hb⟩
  go_wp2
  go_ret2
  exact ⟨v, rfl, hown, hb⟩
end Go.Proofs.YtgmkcmahbefcoaaDoor

/- Walks: sums.fixed, Fix, Extend. -/
set_option linter.unusedVariables false
namespace Go.Proofs.YtgmkcmahbefcoaaDoor
open Go.RowKit Zp

set_option maxRecDepth 100000 in
set_option maxHeartbeats 1000000 in
theorem fixed_any (p S b : Nat) [NeZero p] (n h : Nat) (hn : n = 2 * h ∨ n = 2 * h + 1) (hn1 : n ≤ 65536) (A : Option Addr) (cap : Nat) (xs : List Int) (hml : xs.length = n) (hxs : ∀ x ∈ xs, I64 x) (r : Int) (hr : I64 r) (w : World) (F : Fld w S b p) (hs : SL w A xs) :
    Calls Tryd.prog 72 #[.pointer (some ⟨b, 0, none⟩), .slice A n cap, vi r] w fun e w' => Made (fvs (fixL h (els p xs) (el p r))) w e w' := by
  have hp1 := F.two
  have hp2 := F.max
  have hmk := make_ints0 h (by omega)
  have hbS := F.le
  have hcb := F.c0
  have hbl : b < w.heap.size := block_lt_of_cell hcb
  have HML := Lib.hid hml
  obtain ⟨l, hl⟩ : ∃ l, l = fixL h (els p xs) (el p r) := ⟨_, rfl⟩
  rw [← hl]
  have hll : l.length = h := by rw [hl, fixL_length]
  have HLL := Lib.hid hll
  have HL := Lib.hid hl
  have hh2 : 2 * h ≤ n := by omega
  have t2 : (n : Int).tdiv 2 = (h : Int) := by rw [Int.tdiv_eq_ediv_of_nonneg (by omega)]; omega
  have t3 : (n : Int) / 2 = (h : Int) := by omega
  have t4 : IntKind.i64.wrap (h : Int) = (h : Int) := IntWalk.i64_in _ (by constructor <;> omega)
  clear hml hn hl hll
  go_enter Tryd.func72, Tryd.ntmps72
  go_wp2
  clear t2 t3
  go_loopw [8, 16] (fun v i wr => FoldRel l h w v i wr) (fun _ i _ => h - (intOf i).toNat)
  case atStart => exact ⟨0, w.heap.size, Nat.zero_le _, rfl, rfl, own_made0 w _ h (Nat.le_refl _) (by omega), (Below.refl _ _).alloc (Nat.le_refl _) _⟩
  case round =>
    obtain ⟨k, g, hk, rfl, rfl, hown, hb⟩ := hrel
    have hcR : wr.cell? ⟨b, 0, none⟩ = some (vi p) := (hb.cell (p := ⟨b, 0, none⟩) hbl).trans hcb
    by_cases hkh : k < h
    · have hsw := hs.below hb
      have hkx : k < xs.length := by rw [HML.out]; omega
      have hkx2 : k + h < xs.length := by rw [HML.out]; omega
      obtain ⟨ad, rfl, _, hc1⟩ := hsw.at_ hkx
      obtain ⟨ad', he, _, hc2⟩ := hsw.at_ hkx2
      injection he with he
      subst he
      obtain ⟨ad2, he2, hab, _⟩ := hs.at_ hkx
      injection he2 with he2
      subst he2
      have hgl := (hown.lt g rfl).1
      have hk1 : some (ad.add k).block ≠ some g := by rw [block_of_add]; intro e; injection e with e; omega
      have hk2 : some (ad.add (k + h)).block ≠ some g := by rw [block_of_add]; intro e; injection e with e; omega
      have ix := hxs _ (List.getElem_mem hkx)
      have iy := hxs _ (List.getElem_mem hkx2)
      have hcx : co (els p xs) k = el p xs[k] := by rw [co_of_lt (by simpa using hkx)]; simp
      have hcy : co (els p xs) (k + h) = el p xs[k + h] := by rw [co_of_lt (by simpa using hkx2)]; simp
      have h2 := map_take_succ fv l k (by rw [HLL.out]; exact hkh)
      have h3 : l[k]'(by rw [HLL.out]; exact hkh) = fixE (co (els p xs) k) (co (els p xs) (k + h)) (el p r) := by
        rw [← co_of_lt (by rw [HLL.out]; exact hkh), HL.out, co_fixL _ _ hkh]
      obtain ⟨x, hx⟩ : ∃ x, x = xs[k] := ⟨_, rfl⟩
      obtain ⟨y, hy⟩ : ∃ y, y = xs[k + h] := ⟨_, rfl⟩
      rw [← hx] at hc1 ix hcx
      rw [← hy] at hc2 iy hcy
      rw [h3, hcx, hcy, fixE] at h2
      have hlk : ((fvs l).take k).length = k := by rw [List.length_take, List.length_map, HLL.out]; omega
      have H2 := Lib.hid h2
      have HLK := Lib.hid hlk
      have h1I : I64 1 := by constructor <;> decide
      have i1 : (0 : Int) ≤ k := by omega
      have i2 : (k : Int) < n := by omega
      have i3 : (0 : Int) ≤ (k : Int) + h := by omega
      have i4 : (k : Int) + h < n := by omega
      have i5 : ((k : Int) + h).toNat = k + h := by omega
      have i6 : IntKind.i64.wrap ((k : Int) + h) = (k : Int) + h := IntWalk.i64_in _ (by constructor <;> omega)
      clear h2 h3 hx hy hcx hcy hlk
      go_wp2
      go_region_held3 (fun w' => w'.cell? (ad.add k) = some (vi x) ∧ w'.cell? (ad.add (k + h)) = some (vi y)) (first | exact ⟨hc1, hc2⟩ | go_keep | exact ⟨hg.cell hc1 hk1, hg.cell hc2 hk2⟩) ((first | (go_at_call 94; refine (sub_any p hp2 b _ _ h1I hr _ (by exact hcR)).mono ?_; rintro e w' ⟨rfl, rfl⟩) | (go_at_call 47; refine (mul_any p hp2 b _ _ (by first | assumption | exact i64_fv _ hp2) (by first | assumption | exact i64_fv _ hp2) _ (by exact hcR)).mono ?_; rintro e w' ⟨rfl, k3, rfl⟩) | (go_at_call 44; refine (add_any p hp2 b _ _ (by first | assumption | exact i64_fv _ hp2) (by first | assumption | exact i64_fv _ hp2) _ (by exact hcR)).mono ?_; rintro e w' ⟨rfl, k5, rfl⟩) | (refine step_app1_fits _ _ _ (by rfl) (by rfl) _ _ (by rfl) w.heap.size g k h _ (by rfl) (by rfl) (hown.drewN _) HLK.out.symm hkh ?_; intro w1 hown1 hg)))
      go_wp2
      go_roundw
      case rel => exact ⟨k + 1, g, by omega, by go_num, rfl, by rw [← H2.out]; simp only [el_fv, el_one] at hown1; exact hown1, (below_drewN hb _).grown hg hb.size (fun j hj => by injection hj with hj; subst hj; exact hgl)⟩
      case measure => simp [intOf]; omega
    · obtain rfl : k = h := by omega
      go_wp2
      go_ret
      rw [List.take_of_length_le (by rw [List.length_map, HLL.out]; exact Nat.le_refl _)] at hown
      exact ⟨_, rfl, hown, hb⟩
end Go.Proofs.YtgmkcmahbefcoaaDoor

/- Walks: code.may, Encode, Distance. -/
set_option linter.unusedVariables false
namespace Go.Proofs.YtgmkcmahbefcoaaDoor
open Go.RowKit Zp

/-- may k be? A Bool behind a name -/
def mayB (n : Nat) (k : Int) : Bool := decide (1 ≤ k ∧ k ≤ n)
theorem mayB_true {n : Nat} {k : Int} (h : 1 ≤ k ∧ k ≤ n) : mayB n k = true := decide_eq_true h
theorem mayB_false {n : Nat} {k : Int} (h : ¬ (1 ≤ k ∧ k ≤ n)) : mayB n k = false := decide_eq_false h
theorem may_any (D n : Nat) (k : Int) (w : World) (hc : w.cell? ⟨D, 1, none⟩ = some (vi n)) :
    Calls Tryd.prog 60 #[.pointer (some ⟨D, 0, none⟩), vi k] w fun e w' => e = .returned (.bool (mayB n k)) ∧ w = w' := by
  by_cases h1 : 1 ≤ k
  · by_cases h2 : k ≤ n
    · have h := mayB_true ⟨h1, h2⟩
      have H := Lib.hid h
      clear h
      go_enter Tryd.func60, Tryd.ntmps60
      go_wp2_with (go_at_call 55; refine (size_any D n _ hc).mono ?_; rintro e w' ⟨rfl, rfl⟩)
      go_ret
      exact ⟨ret_bool H.out.symm, rfl⟩
    · have t2 : decide (k ≤ (n : Int)) = false := by simpa using h2
      have h := mayB_false (n := n) (k := k) (fun h => h2 h.2)
      have H := Lib.hid h
      clear h
      go_enter Tryd.func60, Tryd.ntmps60
      go_wp2_with (go_at_call 55; refine (size_any D n _ hc).mono ?_; rintro e w' ⟨rfl, rfl⟩)
      go_ret
      exact ⟨ret_bool H.out.symm, rfl⟩
  · have t1 : decide (1 ≤ k) = false := by simpa using h1
    have h := mayB_false (n := n) (k := k) (fun h => h1 h.1)
    have H := Lib.hid h
    clear h
    go_enter Tryd.func60, Tryd.ntmps60
    go_wp2
    go_ret
    exact ⟨ret_bool H.out.symm, rfl⟩


theorem of_elq (p : Nat) [NeZero p] (hp2 : p ≤ 2147483647) (b : Nat) (n : Int) (hn : I64 n) (w : World) (hc : w.cell? ⟨b, 0, none⟩ = some (vi p)) :
    Calls Tryd.prog 35 #[.pointer (some ⟨b, 0, none⟩), vi n] w fun e w' => e = .returned (vi (fv (el p n))) ∧ w = w' :=
  (of_el p hp2 b n hn w hc).mono fun _ _ h => ⟨h.1, h.2.symm⟩
end Go.Proofs.YtgmkcmahbefcoaaDoor

/- Walk: sums.Extend. -/
set_option linter.unusedVariables false
namespace Go.Proofs.YtgmkcmahbefcoaaDoor
open Go.RowKit Zp

abbrev NoInt (k : Int) : Ending := .returned (.tuple #[vi 0, .iface 70 (.int .i64 k)])
/-- an int, no error -/
def GivesI (x : Int) (w : World) (e : Ending) (w' : World) : Prop := e = .returned (.tuple #[vi x, .nilIface]) ∧ Below w.heap.size w w'
end Go.Proofs.YtgmkcmahbefcoaaDoor

/- Several slices of ints in memory. -/
set_option linter.unusedVariables false
namespace Go.Proofs.YtgmkcmahbefcoaaDoor
open Go.RowKit

/-- several tables in memory -/
def TB (w : World) (A0 : Option Addr) (ts : List (List Int)) : Prop :=
  ∀ k (hk : k < ts.length), ∃ ad A n c, A0 = some ad ∧ (ad.add k).block < w.heap.size ∧ w.cell? (ad.add k) = some (.slice A n c) ∧ ts[k].length = n ∧ n < 9223372036854775808 ∧ SL w A ts[k] ∧ ∀ x ∈ ts[k], I64 x
theorem TB.below {w w' : World} {A0 : Option Addr} {ts : List (List Int)} (h : TB w A0 ts) (hb : Below w.heap.size w w') : TB w' A0 ts := fun k hk => by
  obtain ⟨ad, A, n, c, h1, h2, h3, h4, h5, h6, h7⟩ := h k hk
  exact ⟨ad, A, n, c, h1, Nat.lt_of_lt_of_le h2 hb.size, (hb.cell h2).trans h3, h4, h5, h6.below hb, h7⟩
theorem TB.drewN {w : World} {A0 : Option Addr} {ts : List (List Int)} (h : TB w A0 ts) (m : Nat) : TB (w.drewN m) A0 ts := h

end Go.Proofs.YtgmkcmahbefcoaaDoor

/- Tables in memory; walks: sums.total. -/
set_option linter.unusedVariables false
namespace Go.Proofs.YtgmkcmahbefcoaaDoor
open Go.RowKit Zp

/-- a product of k -/
def prodT {p : Nat} [NeZero p] (k : Nat) (f : Nat → Fin p) : Fin p := match k with
  | 0 => 1
  | k + 1 => prodT k f * f k
theorem prodT_succ {p : Nat} [NeZero p] (k : Nat) (f : Nat → Fin p) : prodT (k + 1) f = prodT k f * f k := rfl
theorem prodT_congr {p : Nat} [NeZero p] {k : Nat} {f g : Nat → Fin p} (h : ∀ i, i < k → f i = g i) : prodT k f = prodT k g := by
  induction k with
  | zero => rfl
  | succ k ih => rw [prodT_succ, prodT_succ, ih (fun i hi => h i (by omega)), h k (by omega)]
/-- table number j of several -/
def tabOf (p : Nat) [NeZero p] (ts : List (List Int)) (j : Nat) : List (Fin p) := els p (ts.getD j [])
/-- the sum of the products of the tables -/
def totP {p : Nat} [NeZero p] (d n : Nat) (T : Nat → List (Fin p)) : Fin p := sumT n fun i => prodT d fun j => co (T j) i

set_option maxRecDepth 100000 in
set_option maxHeartbeats 1000000 in
theorem total_any (p b : Nat) [NeZero p] (hp1 : 2 ≤ p) (hp2 : p ≤ 2147483647) (A : Option Addr) (d cap : Nat) (ts : List (List Int)) (hd : ts.length = d) (hd1 : 1 ≤ d) (hd2 : d ≤ 4) (n : Nat) (hn : ∀ t ∈ ts, t.length = n) (w : World) (hcb : w.cell? ⟨b, 0, none⟩ = some (vi p)) (hs : TB w A ts) :
    Calls Tryd.prog 71 #[.pointer (some ⟨b, 0, none⟩), .slice A d cap] w fun e w' => e = .returned (vi (fv (totP d n (tabOf p ts)))) ∧ ∃ k, w' = w.drewN k := by
  have HD := Lib.hid hd
  obtain ⟨a0, A0, n0, c0, rfl, z1, hc0, hl0, hb0, z2, z3⟩ := hs 0 (by omega)
  have e0 : n0 = n := by rw [← hl0]; exact hn _ (List.getElem_mem _)
  subst e0
  have hc00 : w.cell? a0 = some (.slice A0 n0 c0) := by
    have e : a0.add 0 = a0 := by cases a0; simp [Addr.add]
    rw [← e]; exact hc0
  have e0 : (0 : Int) ≤ (d : Int) := by omega
  have e1 : (0 : Int) < (d : Int) := by omega
  clear z1 z2 z3 hl0 hc0 hd
  go_enter Tryd.func71, Tryd.ntmps71
  go_wp2
  go_loopw [5, 14] (fun v i wr => ∃ k m : Nat, k ≤ n0 ∧ i = vi k ∧ v = vi (fv (sumT k fun i => prodT d fun j => co (tabOf p ts j) i)) ∧ wr = w.drewN m) (fun _ i _ => n0 - (intOf i).toNat)
  case atStart => exact ⟨0, 0, Nat.zero_le _, rfl, by rw [sumT, fv_zero], rfl⟩
  case round =>
    obtain ⟨k, m, hk, rfl, rfl, rfl⟩ := hrel
    by_cases hkn : k < n0
    · obtain ⟨s, hsx⟩ : ∃ s, s = (sumT k fun i => prodT d fun j => co (tabOf p ts j) i) := ⟨_, rfl⟩
      have HSX := Lib.hid hsx
      rw [← hsx]
      clear hsx
      go_wp2
      go_loopw [7, 19] (fun v i wr => ∃ (j m : Nat) (x : Int), j ≤ d ∧ i = vi j ∧ v = vi x ∧ I64 x ∧ el p x = (prodT j fun j => co (tabOf p ts j) k) ∧ wr = w.drewN m) (fun _ i _ => d - (intOf i).toNat)
      case atStart => exact ⟨0, m, 1, Nat.zero_le _, rfl, rfl, by constructor <;> decide, by rw [prodT, el_one], rfl⟩
      case round =>
        obtain ⟨j, m, x, hj, rfl, rfl, hxI, hx, rfl⟩ := hrel
        have HX := Lib.hid hx
        clear hx
        by_cases hjd : j < d
        · have hjt : j < ts.length := by rw [HD.out]; exact hjd
          obtain ⟨ad, A1, n1, c1, he, _, hc1, hl1, _, hs1, hi1⟩ := hs j hjt
          injection he with he
          subst he
          have e1 : n1 = n0 := by rw [← hl1]; exact hn _ (List.getElem_mem _)
          subst e1
          have hkx : k < ts[j].length := by rw [hl1]; exact hkn
          obtain ⟨a1, rfl, _, hc2⟩ := hs1.at_ hkx
          have iy := hi1 _ (List.getElem_mem hkx)
          have hy : co (tabOf p ts j) k = el p ts[j][k] := by
            rw [tabOf, co_els, List.getD_eq_getElem?_getD, List.getD_eq_getElem?_getD, List.getElem?_eq_getElem hjt, Option.getD_some, List.getElem?_eq_getElem hkx, Option.getD_some]
          obtain ⟨y, hyy⟩ : ∃ y, y = ts[j][k] := ⟨_, rfl⟩
          rw [← hyy] at hc2 iy hy
          have HY := Lib.hid hy
          have hcR : (w.drewN m).cell? ⟨b, 0, none⟩ = some (vi p) := hcb
          have hc1' : (w.drewN m).cell? (a0.add j) = some (.slice (some a1) n1 c1) := hc1
          have hc2' : (w.drewN m).cell? (a1.add k) = some (vi y) := hc2
          clear hy hyy hl1
          go_wp2_with fail
          refine (mul_any p hp2 b x y hxI iy _ hcR).mono ?_
          rintro e w' ⟨rfl, m2, rfl⟩
          go_wp2
          go_roundw
          case rel => exact ⟨j + 1, m + m2, _, by omega, by go_num, rfl, i64_fv _ hp2, by rw [el_fv, HX.out, prodT_succ, HY.out], rfl⟩
          case measure => simp [intOf]; omega
        · obtain rfl : j = d := by omega
          have hcR : (w.drewN m).cell? ⟨b, 0, none⟩ = some (vi p) := hcb
          go_wp2_with fail
          refine (add_any p hp2 b (fv s) x (i64_fv _ hp2) hxI _ hcR).mono ?_
          rintro e w' ⟨rfl, m2, rfl⟩
          go_wp2
          go_roundw
          case rel => exact ⟨k + 1, m + m2, by omega, by go_num, by rw [el_fv, HX.out, HSX.out, sumT_succ], rfl⟩
          case measure => simp [intOf]; omega
    · obtain rfl : k = n0 := by omega
      go_wp2
      go_ret
      exact ⟨rfl, _, rfl⟩
end Go.Proofs.YtgmkcmahbefcoaaDoor

/- Plain facts: the round's polynomial of a sum; what is not true is caught. No program is in sight but for the words of the tables. -/
set_option linter.unusedVariables false
namespace Go.Proofs.YtgmkcmahbefcoaaDoor
open Zp
section ct
variable {p : Nat} [NeZero p]

theorem fixE_eq (a b r : Fin p) : fixE a b r = a + (b - a) * r := by unfold fixE; grind

/-- a product of straight lines is a polynomial -/
theorem prod_poly (d : Nat) (f g : Nat → Fin p) : ∃ Q : List (Fin p), Q.length ≤ d + 1 ∧ ∀ r, ev Q r = prodT d fun j => fixE (f j) (g j) r := by
  induction d with
  | zero => exact ⟨[1], by simp, fun r => by simp only [ev, prodT]; grind⟩
  | succ d ih =>
    obtain ⟨Q, h1, h2⟩ := ih
    refine ⟨trimL (mulL Q [f d, g d - f d]), ?_, fun r => ?_⟩
    · have h3 : (trimL (mulL Q [f d, g d - f d])).length ≤ Q.length + 1 := trimL_length_of fun i hi => co_mulL_ge _ Q i (by simp; omega)
      omega
    · rw [ev_trim, ev_mulL, h2, prodT_succ, fixE_eq]
      simp only [ev]
      grind
theorem sum_poly (d h : Nat) (F G : Nat → Nat → Fin p) : ∃ Q : List (Fin p), Q.length ≤ d + 1 ∧ ∀ r, ev Q r = sumT h fun i => prodT d fun j => fixE (F i j) (G i j) r := by
  induction h with
  | zero => exact ⟨[], by simp, fun r => rfl⟩
  | succ h ih =>
    obtain ⟨Q, h1, h2⟩ := ih
    obtain ⟨R, h3, h4⟩ := prod_poly d (F h) (G h)
    refine ⟨addL Q R, ?_, fun r => ?_⟩
    · rw [addL, tab_length]; omega
    · rw [ev_addL, h2, h4, sumT_succ]
theorem sumT_split (m k : Nat) (f : Nat → Fin p) : sumT (m + k) f = sumT m f + sumT k (fun i => f (i + m)) := by
  induction k with
  | zero => simp only [sumT, Nat.add_zero]; grind
  | succ k ih => rw [← Nat.add_assoc, sumT_succ, ih, sumT_succ, Nat.add_comm k m]; grind

/-- the tables with the first variable let be r -/
def fixT (h : Nat) (T : Nat → List (Fin p)) (r : Fin p) (j : Nat) : List (Fin p) := fixL h (T j) r
theorem tot_fix (d h : Nat) (T : Nat → List (Fin p)) (r : Fin p) : totP d h (fixT h T r) = sumT h fun i => prodT d fun j => fixE (co (T j) i) (co (T j) (i + h)) r :=
  sumT_congr fun i hi => prodT_congr fun j hj => by rw [fixT, co_fixL _ _ hi]
theorem tot_round (d h : Nat) (T : Nat → List (Fin p)) : totP d (2 * h) T = totP d h (fixT h T 0) + totP d h (fixT h T 1) := by
  rw [tot_fix, tot_fix, totP, Nat.two_mul, sumT_split]
  congr 1
  · exact sumT_congr fun i _ => prodT_congr fun j _ => by rw [fixE_eq]; grind
  · exact sumT_congr fun i _ => prodT_congr fun j _ => by rw [fixE_eq]; grind

/-- if all of d + 1 unlike elements are met, the sum is true -/
theorem catch_law (hp : IsPrime p) {d h : Nat} (T : Nat → List (Fin p)) {g : List (Fin p)} (hg : g.length ≤ d + 1) {rs : List (Fin p)} (hn : rs.Nodup) (hl : rs.length = d + 1) (hr : ∀ r ∈ rs, totP d h (fixT h T r) = ev g r) :
    totP d (2 * h) T = ev g 0 + ev g 1 := by
  obtain ⟨Q, h1, h2⟩ := sum_poly d h (fun i j => co (T j) i) (fun i j => co (T j) (i + h))
  have hQ : ∀ r, ev Q r = totP d h (fixT h T r) := fun r => by rw [h2, tot_fix]
  have hz : trimL (subL Q g) = [] := zero_of_roots hp hn (fun r hrm => by rw [ev_subL, hQ, hr r hrm]; grind) (by rw [subL, tab_length]; omega)
  have he : ∀ r, ev Q r = ev g r := fun r => by
    have h3 := ev_trim (subL Q g) r
    rw [hz, ev_subL] at h3
    simp only [ev] at h3
    grind
  rw [tot_round, ← hQ, ← hQ, he, he]
end ct
end Go.Proofs.YtgmkcmahbefcoaaDoor

/- append of a whole slice of ints to a slice of ints of the call's own (two lemmas after the guide's own page of words); slices.Clone. -/
set_option linter.unusedVariables false
namespace Go.Proofs.YtgmkcmahbefcoaaDoor
open Go.RowKit

section
variable {P : Program} (w : World)

theorem run_append_of_nil (base : Nat) (t ty e : TypeId) (i : TypeInfo) (size : Nat) (ht : P.underlying t = some (.slice e)) (hi : P.info? e = some i)
    (v : Value) (n : Nat) (xs : List Value) (hown : w.ownsRow base e size v n xs) (c : Nat) : (Builtin.append_ #[t, t] ty #[v, .slice none 0 c]).run P w = .ok v w := by
  rcases hown.2 with ⟨rfl, rfl⟩ | ⟨g, cap, cur, rfl, _, _, hnc, _⟩
  · simp [Builtin.append_, run_underlying ht, sizeOf, typeInfo, hi, Builtin.lenOf, Builtin.firstCells]
  · simp [Builtin.append_, run_underlying ht, sizeOf, typeInfo, hi, Builtin.lenOf, Builtin.firstCells, hnc, storeCells]

theorem run_append_any (base : Nat) (t ty e : TypeId) (i : TypeInfo) (z : Value) (size bytes : Nat) (ht : P.underlying t = some (.slice e)) (hi : P.info? e = some i) (hz : i.zero = some z)
    (hsize : i.size = size) (hby : i.bytes = bytes) (hzs : z.cells.size = size) (hsz : 0 < size)
    (v : Value) (n : Nat) (xs : List Value) (hown : w.ownsRow base e size v n xs)
    (B : Nat) (A : Option Addr) (m c : Nat) (news : List Value) (hr : Reads w B size A m news) (h1 : ∀ u ∈ news, u.oneCell' = true)
    (h63 : n + m ≤ maxLen) (hbytes : (n + m) * bytes ≤ 140737488355328) (hbase : base ≤ w.heap.size) :
    ∃ v' w', (Builtin.append_ #[t, t] ty #[v, .slice A m c]).run P w = .ok v' w' ∧ w'.ownsRow base e size v' (n + m) (xs ++ news) ∧ w.grownBy w' v.ownBlock ∧
      (v'.ownBlock = v.ownBlock ∨ v'.ownBlock = some w.heap.size) := by
  rcases A with _ | ad
  · have hm : m = 0 := by
      rcases Nat.eq_zero_or_pos m with h0 | h0
      · exact h0
      · obtain ⟨ad, h, _⟩ := hr.2 h0
        cases h
    subst hm
    have hn : news = [] := List.eq_nil_of_length_eq_zero (by simpa using hr.1)
    subst hn
    exact ⟨v, w, run_append_of_nil w base t ty e i size ht hi v n xs hown c, by simpa using hown, World.grownBy.refl w _, .inl rfl⟩
  · have hcells : ∀ j u, news[j]? = some u → w.cell? (ad.add j) = some u := by
      intro j u hu
      rcases Nat.eq_zero_or_pos m with h0 | h0
      · subst h0
        have hn : news = [] := List.eq_nil_of_length_eq_zero (by simpa using hr.1)
        subst hn
        simp at hu
      · obtain ⟨ad', h, _, hc⟩ := hr.2 h0
        injection h with h
        subst h
        exact hc j u hu
    obtain ⟨v', w', hrun, h2, h3, _, h5⟩ := run_append_own_at (P := P) w base t ty e i z size bytes ht hi hz hsize hby hzs hsz v n xs hown ad m c news hr.1 hcells h1 h63 hbytes hbase
    exact ⟨v', w', hrun, h2, h3, h5⟩

end

theorem run_appA (w : World) (base : Nat) (v : Value) (xs : List Int) (A : Option Addr) (m c : Nat) (ys : List Int) (hm : ys.length = m) (hown : Own w base v xs) (hr : SL w A ys) (hlen : xs.length + m ≤ 17592186044416) (hbase : base ≤ w.heap.size) (ty : TypeId) :
    ∃ v' w', (Builtin.append_ #[23, 23] ty #[v, .slice A m c]).run Tryd.prog w = .ok v' w' ∧ Grew w w' base v v' (xs ++ ys) := by
  subst hm
  obtain ⟨i0, hi, hz0, hz1, hz2⟩ := info_parts info_int
  obtain ⟨v', w', hrun, h2, h3, h4⟩ := run_append_any (P := Tryd.prog) w base 23 ty 3 i0 _ 1 8 Tryd.underlying23 hi hz0 hz1 hz2 rfl (by omega) v xs.length (xs.map vi) hown w.heap.size A ys.length c (ys.map vi) hr
    (fun u hu => by obtain ⟨n, _, rfl⟩ := List.mem_map.1 hu; rfl) (by simp only [maxLen]; omega) (by omega) hbase
  refine ⟨v', w', hrun, ?_, h3, ?_⟩
  · rw [Own, List.length_append, List.map_append]
    exact h2
  · rcases h4 with h | h
    · exact .inl h
    · exact .inr ⟨_, h, Nat.le_refl _⟩

/-- append(v, ys...) -/
theorem wpList_appA {ops : Array Oper} {rest : List Oper} {o : Oper} {a : Act} {Q : Exit → Act → World → Prop} (w : World) (hgd : o.guard = none) (s x : Operand)
    (ho : o.op = .call { callee := .builtin .append, args := #[s, x], argTypes := #[23, 23] })
    (base : Nat) (v : Value) (xs : List Int) (A : Option Addr) (m c : Nat) (ys : List Int) (hs : a.eval s = v) (hx : a.eval x = .slice A m c) (hm : ys.length = m) (hown : Own w base v xs) (hr : SL w A ys) (hlen : xs.length + m ≤ 17592186044416) (hbase : base ≤ w.heap.size)
    (h : ∀ v' w', Grew w w' base v v' (xs ++ ys) → wpList Tryd.prog ops Q rest (a.put o.dst v') w') : wpList Tryd.prog ops Q (o :: rest) a w :=
  wpList_plain hgd fun _ hK => by
    obtain ⟨v', w', hrun, hg⟩ := run_appA w base v xs A m c ys hm hown hr hlen hbase o.type
    unfold Oper.wp execOp
    simp only [ho, resolve, invoke, builtin, Sem.run_bind, Sem.run_pure, Result.andThen_ok, List.map_toArray, List.map_cons, List.map_nil, hs, hx, hrun]
    exact hK _ _ (h v' w' hg)

/-- an empty slice that is not nil -/
theorem own_empty (w : World) (base : Nat) (hb : base ≤ w.heap.size) : Own (w.alloc (.cells #[] 3)) base (.slice (some ⟨w.heap.size, 0, none⟩) 0 0) [] :=
  World.ownsRow_made w _ 0 hb (Nat.zero_le _) rfl

end Go.Proofs.YtgmkcmahbefcoaaDoor

/- A slice of ints that came in. -/
set_option linter.unusedVariables false
namespace Go.Proofs.YtgmkcmahbefcoaaDoor
open Go.RowKit

/-- '.slice A n c' came in and reads as xs -/
structure ArgS (w : World) (A : Option Addr) (n c : Nat) (xs : List Int) : Prop where
  len : xs.length = n
  cap : n ≤ c
  i64 : ∀ x ∈ xs, I64 x
  reach : c * 8 ≤ 140737488351232
  sl : SL w A xs

theorem ArgS.nil (w : World) : ArgS w none 0 0 [] := ⟨rfl, Nat.le_refl _, by simp, by omega, SL.nil⟩
theorem i64_of_wf {n : Int} (h : (Lit.int .i64 n).wf = true) : I64 n := by
  simpa [Lit.wf, IntKind.min, IntKind.max, IntKind.signed, IntKind.bits] using h

theorem ArgS.mk_ {w : World} {a : Addr} {len cap : Nat} {zs : List Int} (hl : len ≤ cap) (hm : cap ≤ maxLen) (hz : zs.length = cap) (lt : ∀ q ∈ MemPlace.row a zs.length, q.block < w.heap.size)
    (hcell : ∀ i, i < zs.length → w.cell? (a.add i) = some (.int .i64 (zs.getD i 0))) (hwz : ∀ n ∈ zs, (Lit.int .i64 n).wf = true) (hb : cap * 8 ≤ 140737488351232) : ArgS w (some a) len cap (zs.take len) := by
  have hlen : (zs.take len).length = len := by rw [List.length_take, hz]; omega
  refine ⟨hlen, hl, fun x hx => i64_of_wf (hwz x (List.mem_of_mem_take hx)), hb, ?_⟩
  refine ⟨by simp, fun hn => ⟨a, rfl, ?_, fun j u hu => ?_⟩⟩
  · have h0 : 0 < zs.length := by rw [hlen] at hn; omega
    have hc0 := hcell 0 h0
    have : (a.add 0).block < w.heap.size := by
      false_or_by_contra
      rename_i hge
      rw [World.cell?, Array.getElem?_eq_none (by omega)] at hc0
      cases hc0
    rwa [block_of_add] at this
  · rw [List.getElem?_map] at hu
    cases hj : (zs.take len)[j]? with
    | none => rw [hj] at hu; cases hu
    | some x =>
      rw [hj] at hu
      injection hu with hu
      rw [List.getElem?_take] at hj
      split at hj
      · have hjl : j < zs.length := (List.getElem?_eq_some_iff.1 hj).1
        rw [hcell j hjl, ← hu]
        simp [List.getD_eq_getElem?_getD, hj]
      · cases hj

section
variable {w w' : World} {A : Option Addr} {n c : Nat} {xs : List Int}
theorem ArgS.below (h : ArgS w A n c xs) (hb : Below w.heap.size w w') : ArgS w' A n c xs := ⟨h.len, h.cap, h.i64, h.reach, h.sl.below hb⟩
theorem ArgS.r8 (h : ArgS w A n c xs) : xs.length * 8 ≤ 140737488351232 := by
  have := h.reach
  have := h.cap
  have := h.len
  omega
end
end Go.Proofs.YtgmkcmahbefcoaaDoor
