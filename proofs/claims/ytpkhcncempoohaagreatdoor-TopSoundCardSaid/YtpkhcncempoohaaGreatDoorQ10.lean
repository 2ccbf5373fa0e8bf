/- A bundle of texts: Lw3, Lw4, Yl, Lw5, Lw6, Lw7. -/
import Derived.Test.YtpkhcncempoohaaGreatDoorQ09
import Derived.Defers
import Derived.Recover
import Derived.Deep.DeepCutAuto
import Derived.Test.YtpkhcncempoohaaGreatDoorQ05
set_option linter.unusedVariables false
set_option linter.unusedSimpArgs false
namespace Go.Proofs.YtpkhcncempoohaaGreatDoor
open Go.RowKit Zp
section
variable {w0 : World} {B b f m k : Nat} {φ : List UInt8 → Int} {C : List (Int × ByteArray)} {z : Int}
theorem FnS.bne {w : World} {L : List InsI} {n : Int} (h : FnS w B b f m k φ L C z n) : b ≠ f := by
  obtain ⟨h0, vL, vC, h1, _⟩ := h.ws
  exact Blk.ne_ h1 h.blk (by decide)
set_option maxRecDepth 100000 in
set_option maxHeartbeats 2000000 in
theorem val_write {x : Nat} {T : TreeP} {K : Int} (hPK : ∀ W, PT W x T → W.cell? ⟨x, 0, none⟩ = some (vi K)) (hK : (K == 1) = false) (hP : ∀ W, Below B w0 W → PT W x T) (L L' : List InsI) (n : Nat) (hn : n ≤ 1000) (n' : Nat) (hW : WriteC w0 B b f m k φ C z x n L (n + 1) L' n') : ValC w0 B b f m k φ C z x L n n L' n' := fun w hb h => by
  have e0 := hPK w (hP w hb)
  have HW := Lib.hid (fun W (hbW : Below B w W) (hF : FnS W B b f m k φ L C z ((n + 1 : Nat) : Int)) => hW W (hb.trans hbW) hF)
  have HC := Lib.hid (cell_any B b f m k φ L C z n hn w h)
  have H := Lib.hid h
  clear h hW hb hP hPK
  go_enter Tryz.func91, Tryz.ntmps91
  go_wp2_with fail
  refine HC.out.mono ?_
  rintro _ w1 ⟨rfl, hF1, hK1⟩
  have H1 := Lib.hid (And.intro hF1 (hK1.more (Y := [b, f]) (by simp)))
  clear hF1 hK1 e0
  go_wp2_with fail
  refine (HW.out w1 H1.out.2.below H1.out.1).mono ?_
  rintro _ w2 ⟨rfl, hF2, hK2⟩
  have H2 := Lib.hid (And.intro hF2 (H1.out.2.trans hK2))
  clear hF2 hK2
  go_wp2
  go_ret
  exact ⟨rfl, H2.out⟩
set_option maxRecDepth 100000 in
set_option maxHeartbeats 4000000 in
theorem write_bin {x y u : Nat} {a c : TreeP} {K : Int} (hK : K = 2 ∨ K = 4) (r : Nat) (hP : ∀ W, Below B w0 W → PT W x (.bin K a c)) (hP2 : ∃ (gk : Nat), ∀ W, Below B w0 W → (∃ at' : Int, Blk W x 203 #[vi K, vi 0, .string ⟨#[]⟩, .slice (some ⟨gk, 0, none⟩) 2 2, vi at']) ∧ Blk W gk 116 #[.pointer (some ⟨y, 0, none⟩), .pointer (some ⟨u, 0, none⟩)]) (L L1 L2 : List InsI) (n n1 n2 r1 r2 : Nat) (hL : L2.length ≤ 1000) (hB : B ≤ w0.heap.size) (h1 : ValC w0 B b f m k φ C z y L n r1 L1 n1) (h2 : ValC w0 B b f m k φ C z u L1 n1 r2 L2 n2) : WriteC w0 B b f m k φ C z x r L n (L2 ++ [⟨K - 1, r1, r2, r⟩]) n2 := fun w hb h => by
  obtain ⟨gk, hP2⟩ := hP2
  have HP := Lib.hid (fun W (hW : Below B w W) => hP2 W (hb.trans hW))
  have HBS := Lib.hid (Nat.le_trans hB hb.size)
  have KS : Hid (∀ W n, Below B w W → Blk W f 159 #[.pointer (some ⟨b, 0, none⟩), .map (some m), vi z, vi n] → W.cell? ⟨f, 0, none⟩ = some (.pointer (some ⟨b, 0, none⟩)) ∧ W.cell? ⟨x, 0, none⟩ = some (vi K) ∧ W.cell? ⟨x, 3, none⟩ = some (.slice (some ⟨gk, 0, none⟩) 2 2) ∧ W.cell? ⟨gk, 1, none⟩ = some (.pointer (some ⟨u, 0, none⟩))) := Lib.hid fun W n hW hf => by
    obtain ⟨⟨at', hB⟩, hG⟩ := HP.out W hW
    exact ⟨(hf.cell 0).trans rfl, (hB.cell 0).trans rfl, (hB.cell 3).trans rfl, (hG.cell 1).trans rfl⟩
  have e0 : w.cell? ⟨x, 0, none⟩ = some (vi K) ∧ w.cell? ⟨x, 3, none⟩ = some (.slice (some ⟨gk, 0, none⟩) 2 2) ∧ w.cell? ⟨gk, 0, none⟩ = some (.pointer (some ⟨y, 0, none⟩)) := by
    obtain ⟨⟨at', hB⟩, hG⟩ := HP.out w (Below.refl _ _)
    exact ⟨(hB.cell 0).trans rfl, (hB.cell 3).trans rfl, (hG.cell 0).trans rfl⟩
  obtain ⟨e0, e3, eg⟩ := e0
  have q0 : (K == 0) = false := by rcases hK with h | h <;> (subst h; rfl)
  have q1 : (K == 1) = false := by rcases hK with h | h <;> (subst h; rfl)
  have q7 : (K == 7) = false := by rcases hK with h | h <;> (subst h; rfl)
  have q8 : (K == 8) = false := by rcases hK with h | h <;> (subst h; rfl)
  have q9 : (K == 9) = false := by rcases hK with h | h <;> (subst h; rfl)
  have q10 : (K == 10) = false := by rcases hK with h | h <;> (subst h; rfl)
  have q11 : (K == 11) = false := by rcases hK with h | h <;> (subst h; rfl)
  have H := Lib.hid h
  have HV1 := Lib.hid (fun W (hbW : Below B w W) (hF : FnS W B b f m k φ L C z n) => h1 W (hb.trans hbW) hF)
  have HV2 := Lib.hid (fun W (hbW : Below B w W) (hF : FnS W B b f m k φ L1 C z n1) => h2 W (hb.trans hbW) hF)
  have HO := Lib.hid (fun W => op_any K hK W)
  have HA := Lib.hid (fun W (hW : B ≤ W.heap.size) (hS : WS W B b L2 C) => wadd_any B b L2 C (K - 1) r1 r2 r hL W hW hS)
  clear h hP hP2 hb hL hB h1 h2 hK
  go_enter Tryz.func137, Tryz.ntmps137
  go_wp2_with fail
  refine (HV1.out w (Below.refl _ _) H.out).mono ?_
  rintro _ w1 ⟨rfl, hF1, hK1⟩
  have H1 := Lib.hid (And.intro hF1 hK1)
  clear hF1 hK1 e0 e3 eg
  go_upto_region 2 with (fail)
  refine wp_region_held_drew (S := fun W => W.cell? ⟨f, 0, none⟩ = some (.pointer (some ⟨b, 0, none⟩)) ∧ W.cell? ⟨x, 0, none⟩ = some (vi K) ∧ W.cell? ⟨x, 3, none⟩ = some (.slice (some ⟨gk, 0, none⟩) 2 2) ∧ W.cell? ⟨gk, 1, none⟩ = some (.pointer (some ⟨u, 0, none⟩))) (by kernel_rfl) (KS.out _ _ H1.out.2.drew.below H1.out.1.blk) (fun hHeld => ?_)
  refine tkH 0 ?_
  refine tkH 1 ?_
  refine tkH 2 ?_
  refine tkH 3 ?_
  refine tkH 4 ?_
  refine tkH 5 ?_
  refine tkH 6 ?_
  refine tkH 7 ?_
  refine tkH 9 ?_
  refine tkH 10 ?_
  refine tkH 11 ?_
  refine tkH 12 ?_
  refine tkH 13 ?_
  refine tkH 14 ?_
  refine tkH 15 ?_
  refine tkH 16 ?_
  refine tkH 18 ?_
  refine stH 8 (fun K hK => ?_)
  go_simp
  refine (HO.out w1.drew).mono ?_
  rintro _ _ ⟨rfl, rfl⟩
  refine hK.out _ _ (KS.out _ _ H1.out.2.drew.below H1.out.1.blk) (fun hHeld => ?_)
  clear hK K
  (try simp only [Act.put, List.setIfInBounds_toArray, List.set_cons_zero, List.set_cons_succ])
  refine stH 17 (fun K hK => ?_)
  go_simp
  refine (HV2.out w1.drew H1.out.2.drew.below H1.out.1.drew).mono ?_
  rintro _ w2 ⟨rfl, hF2, hK2⟩
  have H2 := Lib.hid (And.intro hF2 (H1.out.2.drew.trans hK2))
  clear hF2 hK2
  refine hK.out _ _ (KS.out _ _ H2.out.2.below H2.out.1.blk) (fun hHeld => ?_)
  clear hK K
  (try simp only [Act.put, List.setIfInBounds_toArray, List.set_cons_zero, List.set_cons_succ])
  refine stH 19 (fun K hK => ?_)
  go_simp
  refine (HA.out w2 (Nat.le_trans HBS.out H2.out.2.below.size) H2.out.1.ws).mono ?_
  rintro _ w3 ⟨rfl, hW3, hK3⟩
  have hF3 := H2.out.1.kp1 hW3 hK3
  have H3 := Lib.hid (And.intro hF3 (H2.out.2.trans (hK3.more (Y := [b, f]) (by simp))))
  clear hW3 hK3 hF3
  refine hK.out _ _ (KS.out _ _ H3.out.2.below H3.out.1.blk) (fun hHeld => ?_)
  clear hK K
  (try simp only [Act.put, List.setIfInBounds_toArray, List.set_cons_zero, List.set_cons_succ])
  refine wpAnyH_done (by kernel_rfl) ?_ _
  go_wp2
  go_end0
  exact ⟨rfl, H3.out⟩
end
theorem val_M {w0 : World} {B b f m k : Nat} {φ : List UInt8 → Int} {C : List (Int × ByteArray)} {z : Int} (hφ : φ [97] = (0 : Nat)) {x : Nat} (hB : B ≤ w0.heap.size) (hBB : w0.heap.size ≤ B) (hP : PT w0 x treeM) (L : List InsI) (hL : L.length ≤ 100) (n : Nat) (hn : n ≤ 100) : ValC w0 B b f m k φ C z x L n n (L ++ [⟨5, ((n + 2 : Nat) : Int), 1, 0⟩] ++ [⟨1, ((0 : Nat) : Int), ((n + 2 : Nat) : Int), ((n + 1 : Nat) : Int)⟩] ++ [⟨3, ((0 : Nat) : Int), ((n + 1 : Nat) : Int), (n : Int)⟩]) (n + 3) := by
  have hbb : ∀ W, Below B w0 W → Below w0.heap.size w0 W := fun W hW => hW.mono hBB
  have hPW : ∀ W, Below B w0 W → PT W x treeM := fun W hW => hP.below (hbb W hW)
  obtain ⟨at', g, y, u, h1, h2, h3, h4⟩ := hP
  have h4W : ∀ W, Below B w0 W → PT W u treeS := fun W hW => h4.below (hbb W hW)
  obtain ⟨at2, g2, y2, u2, k1, k2, k3, k4⟩ := h4
  have v1 : ∀ L n, ValC w0 B b f m k φ C z y L n 0 L n := fun L n => val_name (by decide) hφ (fun W hW => h3.below (hbb W hW)) L n
  have v2 : ∀ L n, ValC w0 B b f m k φ C z y2 L n 0 L n := fun L n => val_name (by decide) hφ (fun W hW => k3.below (hbb W hW)) L n
  have v3 : ValC w0 B b f m k φ C z u2 L (n + 2) (n + 2) (L ++ [⟨5, ((n + 2 : Nat) : Int), 1, 0⟩]) (n + 3) := val_write (fun W hW => by
    obtain ⟨a, hW⟩ := hW
    exact (hW.cell 0).trans rfl) (by decide) (fun W hW => k4.below (hbb W hW)) L _ (n + 2) (by omega) (n + 3) (write_num (n + 2) (fun W hW => k4.below (hbb W hW)) L (by omega) (n + 3) hB)
  have w2 := write_bin (K := 2) (.inl rfl) (n + 1) h4W ⟨g2, fun W hW => ⟨⟨at2, k1.below (hbb W hW) k1.lt⟩, k2.below (hbb W hW) k2.lt⟩⟩ L L _ (n + 2) (n + 2) (n + 3) 0 (n + 2) (by simp; omega) hB (v2 L (n + 2)) v3
  have v4 := val_write (fun W hW => by
    obtain ⟨a, _, _, _, hW, _⟩ := hW
    exact (hW.cell 0).trans rfl) (by decide) h4W L _ (n + 1) (by omega) (n + 3) w2
  have w1 := write_bin (K := 4) (.inr rfl) n hPW ⟨g, fun W hW => ⟨⟨at', h1.below (hbb W hW) h1.lt⟩, h2.below (hbb W hW) h2.lt⟩⟩ L L _ (n + 1) (n + 1) (n + 3) 0 (n + 1) (by simp; omega) hB (v1 L (n + 1)) v4
  exact val_write (fun W hW => by
    obtain ⟨a, _, _, _, hW, _⟩ := hW
    exact (hW.cell 0).trans rfl) (by decide) hPW L _ n (by omega) (n + 3) w1
end Go.Proofs.YtpkhcncempoohaaGreatDoor

namespace Go.Proofs.YtpkhcncempoohaaGreatDoor
open Go.RowKit Zp
theorem KpI.on {X Y : List Nat} {B : Nat} {a b c : World} (h : KpI X B a b) (k : KpI Y B b c) (hy : ∀ y ∈ Y, y ∈ X ∨ a.heap.size ≤ y) : KpI X B a c :=
  ⟨h.below.trans k.below, fun g hg hX hn => by
    have e := h.keep g hg hX hn
    rw [k.keep g (Nat.lt_of_lt_of_le hg h.below.size) (fun hm => (hy g hm).elim hX (fun h2 => absurd hg (Nat.not_lt.2 h2))) (fun cs hc => hn cs (by rw [Blk, ← e]; exact hc)), e]⟩
theorem KpI.alloc {X : List Nat} {B : Nat} {a b : World} (h : KpI X B a b) (hB : B ≤ a.heap.size) (o : Obj) : KpI X B a (b.alloc o) :=
  ⟨h.below.alloc (Nat.le_trans hB h.below.size) o, fun g hg hX hn => (Below.heap_alloc b o g (Nat.lt_of_lt_of_le hg h.below.size)).trans (h.keep g hg hX hn)⟩
theorem KpI.grown {X : List Nat} {B : Nat} {a b c : World} {row : Option Nat} (h : KpI X B a b) (hg : b.grownBy c row) (hB : B ≤ a.heap.size) (hr : ∀ k, row = some k → B ≤ k ∧ (k ∈ X ∨ a.heap.size ≤ k)) : KpI X B a c :=
  ⟨h.below.grown hg (Nat.le_trans hB h.below.size) (fun k hk => (hr k hk).1), fun g hgl hX hn => (hg.block g (Nat.lt_of_lt_of_le hgl h.below.size) (fun e => by
    rcases (hr g e.symm).2 with h2 | h2
    · exact hX h2
    · omega)).trans (h.keep g hgl hX hn)⟩
theorem MapS.upd {w : World} {g n : Nat} {φ : List UInt8 → Int} (h : MapS w g n φ) (hn : n < maxLen) (s : ByteArray) (hs : s.size ≤ maxLen) {v : Int} (hv : I64 v) :
    ∃ w', (Instr.mapUpdate 113 (.map (some g)) (.string s) (vi v)).run Tryz.prog w = .ok () w' ∧ MapS w' g (n + 1) (putS φ s.data.toList v) ∧ w.grownBy w' (some g) := by
  obtain ⟨D, h1, h2⟩ := h
  obtain ⟨w', h3, h4, h5⟩ := h1.update keyed_s Tryz.underlying113 hn (Go.WideMaps.keyOf_string_mk Tryz.underlying9 hs) (plain_iS hv)
  exact ⟨w', h3, ⟨_, h4, MapS.put h1 h2 _ _⟩, h5⟩
theorem FnS.zero {w : World} {B b f m k : Nat} {φ : List UInt8 → Int} {L : List InsI} {C : List (Int × ByteArray)} {z n : Int} (h : FnS w B b f m k φ L C z n) (v : Int) : FnS (w.setCell ⟨f, 2, none⟩ (vi v)) B b f m k φ L C v n :=
  ⟨h.ws.far h.blk ⟨by decide, by decide, by decide⟩ _, h.hf, h.blk.set_ 2 _, h.map.block (Below.heap_setCell _ _ _ _ fun e => h.map.not (by rw [show m = f from e]; exact h.blk))⟩
def bodyI : List InsI := [⟨5, 4, 1, 0⟩, ⟨1, 0, 4, 3⟩, ⟨3, 0, 3, 2⟩, ⟨11, 2, 0, 0⟩]
set_option maxRecDepth 100000 in
set_option maxHeartbeats 4000000 in
theorem body_any {w0 : World} (B b fn : Nat) (L : List InsI) (C : List (Int × ByteArray)) (hB : B ≤ w0.heap.size) (hBB : w0.heap.size ≤ B) (hF : FnT w0 fn) (hL : L.length ≤ 50) (w : World) (hb : Below B w0 w) (h : WS w B b L C) :
    Calls Tryz.prog 50 #[.pointer (some ⟨b, 0, none⟩), .pointer (some ⟨fn, 0, none⟩)] w fun e w' => e = .returned (vi 5) ∧ WS w' B b (L ++ bodyI) C ∧ KpI [b] B w w' := by
  obtain ⟨x, A0, ⟨gn, cn, cun, V, hf1, hf2, hf3⟩, hPx⟩ := hF
  have KF : Hid (∀ W, Below B w0 W → Blk W fn 118 #[.string ⟨#[109, 97, 105, 110]⟩, .slice (some ⟨gn, 0, none⟩) 1 cn, .pointer (some ⟨x, 0, none⟩), vi A0, V] ∧ W.cell? ⟨gn, 0, none⟩ = some (.string ⟨#[97]⟩)) := Lib.hid fun W hW => ⟨hf1.below (hW.mono hBB) hf1.lt, ((hf2.below (hW.mono hBB) hf2.lt).cell 0).trans hf3⟩
  have HBw := Lib.hid (And.intro (Nat.le_trans hB hb.size) hb)
  obtain ⟨m, hm⟩ : ∃ m, m = w.heap.size := ⟨_, rfl⟩
  obtain ⟨f, hf⟩ : ∃ f, f = w.heap.size + 1 := ⟨_, rfl⟩
  obtain ⟨w2, hw2⟩ : ∃ W, W = (w.alloc (.map #[] 0)).alloc (.cells #[.pointer (some ⟨b, 0, none⟩), .map (some w.heap.size), vi 0, vi 0] 159) := ⟨_, rfl⟩
  have hb2 : Below w.heap.size w w2 := by rw [hw2]; exact ((Below.refl _ _).alloc (Nat.le_refl _) _).alloc (by simp) _
  have hM2 : MapS w2 m 0 (fun _ => 0) := by
    rw [hw2, hm]
    exact (MapS.made w).block (Below.heap_alloc _ _ _ (by simp))
  have hF2 : Blk w2 f 159 #[.pointer (some ⟨b, 0, none⟩), .map (some m), vi 0, vi 0] := by
    have hh := Blk.new (w.alloc (.map #[] 0)) 159 #[.pointer (some ⟨b, 0, none⟩), .map (some w.heap.size), vi 0, vi 0]
    rw [show (w.alloc (.map #[] 0)).heap.size = w.heap.size + 1 by simp, ← hf, ← hm] at hh
    rw [hw2, ← hm]
    exact hh
  have hS2 : FnS w2 B b f m 0 (fun _ => 0) L C 0 0 := ⟨h.below hb2, by have := HBw.out.1; omega, hF2, hM2⟩
  have hk2 : KpI [b] B w w2 := by rw [hw2]; exact ((KpI.refl _ _ _).alloc HBw.out.1 _).alloc HBw.out.1 _
  have H2 := Lib.hid (And.intro hS2 (And.intro hk2 (And.intro (show w.heap.size ≤ f by omega) (show w.heap.size ≤ m by omega))))
  have HW2 := Lib.hid (And.intro hw2 (And.intro hm hf))
  have HC0 : Hid (∀ W, FnS W B b f m 0 (fun _ => 0) L C 0 0 → Calls Tryz.prog 90 #[.pointer (some ⟨f, 0, none⟩)] W fun e w' => e = .returned (vi 0) ∧ FnS w' B b f m 0 (fun _ => 0) L C 0 1 ∧ KpI [f] B W w') := Lib.hid fun W hW => cell_any B b f m 0 (fun _ => 0) L C 0 0 (by omega) W hW
  have HC1 : Hid (∀ W, FnS W B b f m 1 (putS (fun _ => 0) [97] 0) L C 0 1 → Calls Tryz.prog 90 #[.pointer (some ⟨f, 0, none⟩)] W fun e w' => e = .returned (vi 1) ∧ FnS w' B b f m 1 (putS (fun _ => 0) [97] 0) L C 0 2 ∧ KpI [f] B W w') := Lib.hid fun W hW => cell_any B b f m 1 (putS (fun _ => 0) [97] 0) L C 0 1 (by omega) W hW
  have HV : Hid (∀ W, Below B w0 W → FnS W B b f m 1 (putS (fun _ => 0) [97] 0) L C 1 2 → Calls Tryz.prog 91 #[.pointer (some ⟨f, 0, none⟩), .pointer (some ⟨x, 0, none⟩)] W fun e w' => e = .returned (vi 2) ∧ FnS w' B b f m 1 (putS (fun _ => 0) [97] 0) (L ++ [⟨5, 4, 1, 0⟩] ++ [⟨1, 0, 4, 3⟩] ++ [⟨3, 0, 3, 2⟩]) C 1 5 ∧ KpI [b, f] B W w') := Lib.hid fun W hW hFW => val_M (φ := putS (fun _ => 0) [97] 0) (by simp [putS]) hB hBB hPx L (by omega) 2 (by omega) W hW hFW
  have HA := Lib.hid (fun W (hW : B ≤ W.heap.size) (hS : WS W B b (L ++ [⟨5, 4, 1, 0⟩] ++ [⟨1, 0, 4, 3⟩] ++ [⟨3, 0, 3, 2⟩]) C) => wadd_any B b (L ++ [⟨5, 4, 1, 0⟩] ++ [⟨1, 0, 4, 3⟩] ++ [⟨3, 0, 3, 2⟩]) C 11 2 0 0 (by simp; omega) W hW hS)
  have a1 := ((KF.out w2 (HBw.out.2.trans hk2.below)).1.cell 1).trans (show _ = some (.slice (some ⟨gn, 0, none⟩) 1 cn) from rfl)
  have a0 := (KF.out w2 (HBw.out.2.trans hk2.below)).2
  have hmm := @run_makeMap Tryz.prog
  clear hf1 hf2 hf3 hPx hw2 hm hf hb2 hM2 hF2 hS2 hk2 h hb hL hB hBB
  go_enter Tryz.func50, Tryz.ntmps50
  go_upto_region 2 with (fail)
  rw [← HW2.out.1, ← HW2.out.2.2]
  clear hmm
  go_wp2
  go_loopw [17] (fun i wr => (i = vi 0 ∧ w2 = wr) ∨ (i = vi 1 ∧ FnS wr B b f m 1 (putS (fun _ => 0) [97] 0) L C 0 1 ∧ KpI [b] B w wr)) (fun i _ => 1 - (intOf i).toNat)
  case atStart => exact .inl ⟨rfl, rfl⟩
  case round =>
    rename World => wr
    rcases hrel with ⟨rfl, rfl⟩ | ⟨rfl, hF, hK⟩
    · go_upto_region 5 with (fail)
      refine wp_region_held_drew (S := fun W => W.cell? ⟨f, 1, none⟩ = some (.map (some m))) (by kernel_rfl) ((H2.out.1.drew.blk.cell 1).trans rfl) (fun hHeld => ?_)
      refine tkH 0 ?_
      refine tkH 1 ?_
      refine tkH 2 ?_
      refine tkH 3 ?_
      refine tkH 4 ?_
      refine tkH 5 ?_
      refine stH 6 (fun K hK => ?_)
      go_simp
      refine (HC0.out w2.drew H2.out.1.drew).mono ?_
      rintro _ w3 ⟨rfl, hF3, hK3⟩
      have H3 := Lib.hid (And.intro hF3 (H2.out.2.1.drew.on hK3 (by simp; exact .inr H2.out.2.2.1)))
      clear hF3 hK3
      refine hK.out _ _ ((H3.out.1.blk.cell 1).trans rfl) (fun hHeld => ?_)
      clear hK K
      (try simp only [Act.put, List.setIfInBounds_toArray, List.set_cons_zero, List.set_cons_succ])
      obtain ⟨w4, hins, hM4, hg4⟩ := H3.out.1.map.upd (by simp [maxLen]) ⟨#[97]⟩ (by decide) (v := 0) (by constructor <;> omega)
      have hmb : ∀ {t : TypeId} {cs : Array Value} {g : Nat}, Blk w3 g t cs → some g ≠ some m := fun hB e => by
        injection e with e
        exact H3.out.1.map.not (by rw [← e]; exact hB)
      have hF4 : FnS w4 B b f m 1 (putS (fun _ => 0) [97] 0) L C 0 1 := ⟨H3.out.1.ws.keepQ (fun g t cs hB _ => hg4.block g hB.lt (hmb hB)), H3.out.1.hf, H3.out.1.blk.grown hg4 (hmb H3.out.1.blk), hM4⟩
      have hK4 : KpI [b] B w w4 := H3.out.2.grown hg4 HBw.out.1 (fun k hk => by
        injection hk with hk
        rw [← hk]
        exact ⟨Nat.le_trans HBw.out.1 H2.out.2.2.2, .inr H2.out.2.2.2⟩)
      have H4 := Lib.hid (And.intro hF4 hK4)
      clear hM4 hg4 hmb hF4 hK4
      refine stH 7 (fun K hK => ?_)
      go_simp
      refine hK.out _ _ ((H4.out.1.blk.cell 1).trans rfl) (fun hHeld => ?_)
      clear hK K
      (try simp only [Act.put, List.setIfInBounds_toArray, List.set_cons_zero, List.set_cons_succ])
      refine wpAnyH_done (by kernel_rfl) ?_ _
      clear hins a1 a0
      go_wp2
      go_roundw
      case rel => exact .inr ⟨by first | rfl | go_num, H4.out⟩
      case measure => simp [intOf]
    · have H4 := Lib.hid (And.intro hF hK)
      clear hF hK a1 a0
      go_wp2_with fail
      refine (HC1.out wr H4.out.1).mono ?_
      rintro _ w5 ⟨rfl, hF5, hK5⟩
      have u5 := hF5.blk.frozen 2
      have v5 := (hF5.blk.cell 2).trans (show _ = some (vi 0) from rfl)
      have H5 := Lib.hid (And.intro hF5 (H4.out.2.on hK5 (by simp; exact .inr H2.out.2.2.1)))
      clear hF5 hK5
      go_upto_region 8 with (fail)
      obtain ⟨w6, hw6⟩ : ∃ W, W = w5.setCell ⟨f, 2, none⟩ (vi 1) := ⟨_, rfl⟩
      rw [← hw6]
      have hF6 : FnS w6 B b f m 1 (putS (fun _ => 0) [97] 0) L C 1 2 := by rw [hw6]; exact H5.out.1.zero 1
      have hK6 : KpI [b] B w w6 := by
        rw [hw6]
        exact H5.out.2.on ((KpI.refl [f] B w5).setCell (by simp) (Nat.le_trans HBw.out.1 H2.out.2.2.1) _) (by simp; exact .inr H2.out.2.2.1)
      have y6 := ((KF.out w6 (HBw.out.2.trans hK6.below)).1.cell 2).trans (show _ = some (.pointer (some ⟨x, 0, none⟩)) from rfl)
      have H6 := Lib.hid (And.intro hF6 hK6)
      clear hF6 hK6 u5 v5 hw6
      go_wp2_with fail
      refine (HV.out w6 (HBw.out.2.trans H6.out.2.below) H6.out.1).mono ?_
      rintro _ w7 ⟨rfl, hF7, hK7⟩
      have H7 := Lib.hid (And.intro hF7 (H6.out.2.on hK7 (by simp; exact .inr H2.out.2.2.1)))
      clear hF7 hK7 y6
      go_wp2_with fail
      refine (HA.out w7 (Nat.le_trans HBw.out.1 H7.out.2.below.size) H7.out.1.ws).mono ?_
      rintro _ w8 ⟨rfl, hW8, hK8⟩
      have hF8 := H7.out.1.kp1 hW8 hK8
      have y8 := (hF8.blk.cell 3).trans (show _ = some (vi 5) from rfl)
      have H8 := Lib.hid (And.intro hF8.ws (H7.out.2.trans hK8))
      clear hW8 hK8 hF8
      go_wp2
      go_ret
      refine ⟨rfl, ?_, H8.out.2⟩
      have := H8.out.1
      simpa [bodyI] using this
end Go.Proofs.YtpkhcncempoohaaGreatDoor

namespace Go.Proofs.YtpkhcncempoohaaGreatDoor
open Go.RowKit Zp
set_option maxHeartbeats 2000000 in
theorem parse_idle (p2 p3 p4 : Addr) (w : World) :
    CallsD Tryz.prog 43 #[.pointer (some p2), .pointer (some p3), .pointer (some p4)] .returning w fun e u' w' => e = .returned (.tuple #[]) ∧ u' = .returning ∧ w' = w := by
  refine callsD_of_wpS Tryz.func43 rfl fun c₀ cs hu => ?_
  apply wpS_seq
  apply wpS_region
  simp [wpOpsS, go_sem, recoverD, hu, Tryz.ntmps43, Exit.thenS]
  refine wpS_of_wp ?_
  rw [show (#[.pointer (some p2), .pointer (some p3), .pointer (some p4)] ++ ((Array.replicate 19 undef).setIfInBounds 3 Value.nilIface).setIfInBounds 0 Value.nilIface : Array Value) = #[.pointer (some p2), .pointer (some p3), .pointer (some p4), Value.nilIface, undef, undef, Value.nilIface, undef, undef, undef, undef, undef, undef, undef, undef, undef, undef, undef, undef, undef, undef, undef] from rfl]
  go_wp2
  cases c₀
  simp_all [bodyPostS, results, Tryz.results43]
def only4 (A : Nat → Nat → Nat → Nat → Act) (R : Nat → Nat → Nat → Nat → World → Prop) : Exit → Act → World → Prop
  | .normal, a, w => ∃ x y z u, R x y z u w ∧ a = A x y z u
  | _, _, _ => False
theorem wp_fixed4 {P : Program} {c : Code} {Q : Exit → Act → World → Prop} {a : Act} {w : World} (A : Nat → Nat → Nat → Nat → Act) (R : Nat → Nat → Nat → Nat → World → Prop) (h : c.wp P (only4 A R) a w) (k : ∀ x y z u w', R x y z u w' → Q .normal (A x y z u) w') : c.wp P Q a w :=
  Code.wp_mono (fun e a' w' h => by
    cases e with
    | normal => obtain ⟨x, y, z, u, h1, rfl⟩ := h; exact k _ _ _ _ _ h1
    | _ => exact h.elim) h
theorem info_pf : (Tryz.prog.info? 103).map (fun i => (i.zero, i.size, i.bytes)) = some (some (.pointer none), 1, 8) := by kernel_rfl
theorem FnT.tnr {w w' : World} {f r : Nat} {X : List Nat} (h : FnT w f) (ht : Tn X w w') (hx : ∀ x ∈ X, ∀ t cs, Blk w x t cs → t ≠ 118 ∧ t ≠ 9 ∧ t ≠ 203 ∧ t ≠ 116) : FnT w' f := by
  obtain ⟨x, A0, h1, h2⟩ := h
  exact ⟨x, A0, h1.tn ht (fun y hy t cs hB => ⟨(hx y hy t cs hB).1, (hx y hy t cs hB).2.1⟩), h2.keep fun g t cs hg hty => hg.tn ht (fun hm => by
    rcases hty with rfl | rfl
    · exact (hx g hm _ _ hg).2.2.1 rfl
    · exact (hx g hm _ _ hg).2.2.2 rfl)⟩
set_option maxRecDepth 100000 in
set_option maxHeartbeats 4000000 in
theorem parse_any (w : World) : Calls Tryz.prog 16 #[.string txtL] w fun e w' => ∃ q, e = .returned (.tuple #[.pointer (some ⟨q, 0, none⟩), vi 0, .nilIface]) ∧ ProgT w' q ∧ Below w.heap.size w w' := by
  obtain ⟨W3, hW3⟩ : ∃ W, W = ((w.alloc (.cells #[.pointer none] 50)).alloc (.cells #[vi 0] 3)).alloc (.cells #[.nilIface] 36) := ⟨_, rfl⟩
  have hb3 : Below w.heap.size w W3 := by rw [hW3]; exact (((Below.refl _ _).alloc (Nat.le_refl _) _).alloc (by simp) _).alloc (by simp; omega) _
  have z1 : (w.alloc (.cells #[.pointer none] 50)).heap.size = w.heap.size + 1 := by simp
  have z2 : ((w.alloc (.cells #[.pointer none] 50)).alloc (.cells #[vi 0] 3)).heap.size = w.heap.size + 1 + 1 := by simp
  have k2 : Blk W3 w.heap.size 50 #[.pointer none] := by rw [hW3]; exact ((Blk.new w _ _).alloc _).alloc _
  have k3 : Blk W3 (w.heap.size + 1) 3 #[vi 0] := by rw [hW3, ← z1]; exact (Blk.new _ _ _).alloc _
  have k4 : Blk W3 (w.heap.size + 1 + 1) 36 #[.nilIface] := by rw [hW3, ← z2]; exact Blk.new _ _ _
  obtain ⟨g4, hg4⟩ : ∃ g, g = w.heap.size + 1 + 1 := ⟨_, rfl⟩
  obtain ⟨g3, hg3⟩ : ∃ g, g = w.heap.size + 1 := ⟨_, rfl⟩
  obtain ⟨g2, hg2⟩ : ∃ g, g = w.heap.size := ⟨_, rfl⟩
  rw [← hg4] at k4
  rw [← hg3] at k3
  rw [← hg2] at k2
  obtain ⟨r, hr⟩ : ∃ r, r = W3.heap.size := ⟨_, rfl⟩
  obtain ⟨W4, hW4⟩ : ∃ W, W = W3.alloc (.cells #[.string txtL, vi 0, vi 0, vi 0, .string ⟨#[]⟩, vi 0] 99) := ⟨_, rfl⟩
  have hb34 : Below W3.heap.size W3 W4 := by rw [hW4]; exact (Below.refl _ _).alloc (Nat.le_refl _) _
  have hR4 : RT W4 r 0 ((0 : Nat) : Int) := by rw [hW4, hr]; exact Blk.new _ _ _
  have j2 := k2.below hb34 k2.lt
  have j3 := k3.below hb34 k3.lt
  have j4 := k4.below hb34 k4.lt
  have H4 := Lib.hid (And.intro (hb3.trans (hb34.mono hb3.size)) (And.intro j2 (And.intro j3 (And.intro j4 hR4))))
  have HW3 := Lib.hid (And.intro hW3 (And.intro hg2 (And.intro hg3 (And.intro hg4 (And.intro hW4 hr)))))
  have hg : g2 ≠ g3 ∧ g2 ≠ g4 ∧ g3 ≠ g4 ∧ w.heap.size ≤ g2 ∧ w.heap.size ≤ g3 ∧ w.heap.size ≤ g4 := by omega
  have HG := Lib.hid hg
  have HAD := Lib.hid (advance_any r 0 ((0 : Nat) : Int) (by omega))
  have HFN := Lib.hid (function_any r)
  have hmf : ∀ (fn : Fn) (first cap : Array Value) (w : World), (Instr.makeFunc fn first cap).run Tryz.prog w = .ok (.func fn first cap) w := fun _ _ _ _ => rfl
  clear hb3 z1 z2 k2 k3 k4 hg2 hg3 hg4 hr hW4 hb34 hR4 j2 j3 j4 hg hW3
  go_enter_defers Tryz.func16, Tryz.ntmps16
  go_upto_region 1 with (fail)
  rw [← HW3.out.1, ← HW3.out.2.2.2.1, ← HW3.out.2.2.1, ← HW3.out.2.1]
  go_upto_region 5 with (fail)
  rw [← HW3.out.2.2.2.2.1, ← HW3.out.2.2.2.2.2]
  clear hmf
  go_wp2_with fail
  refine (HAD.out W4 H4.out.2.2.2.2).mono ?_
  rintro _ W5 ⟨rfl, hR5, hT5⟩
  have hne : ∀ g, (g = g2 ∨ g = g3 ∨ g = g4) → g ≠ r := fun g hg e => by
    subst e
    rcases hg with rfl | rfl | rfl
    · exact H4.out.2.1.ne_ H4.out.2.2.2.2 (by decide) rfl
    · exact H4.out.2.2.1.ne_ H4.out.2.2.2.2 (by decide) rfl
    · exact H4.out.2.2.2.1.ne_ H4.out.2.2.2.2 (by decide) rfl
  have HNE := Lib.hid hne
  have hrw : w.heap.size ≤ r := by
    have h1 := HW3.out.2.2.2.2.2
    have h2 := HG.out
    have h3 := HW3.out.2.1
    have h4 : g2 < W3.heap.size := by rw [HW3.out.1, h3]; simp; omega
    omega
  have HRW := Lib.hid hrw
  have j2 := H4.out.2.1.tn hT5 (by simp; exact hne _ (.inl rfl))
  have j3 := H4.out.2.2.1.tn hT5 (by simp; exact hne _ (.inr (.inl rfl)))
  have j4 := H4.out.2.2.2.1.tn hT5 (by simp; exact hne _ (.inr (.inr rfl)))
  have c2 := (j2.cell 0).trans (show _ = some (.pointer none) from rfl)
  have u2 := j2.frozen 0
  have hb5 : Below w.heap.size w W5 := H4.out.1.trans (hT5.below (B := w.heap.size) (by simp; exact hrw) H4.out.1.size)
  -- the program's block
  obtain ⟨q, hq⟩ : ∃ q, q = W5.heap.size := ⟨_, rfl⟩
  have hm2 : ¬ g2 = W5.heap.size := by have := j2.lt; omega
  obtain ⟨W6, hW6⟩ : ∃ W, W = (W5.alloc (.cells #[.slice none 0 0] 102)).setCell ⟨g2, 0, none⟩ (.pointer (some ⟨W5.heap.size, 0, none⟩)) := ⟨_, rfl⟩
  have hT6 : Tn [g2] W5 W6 := by rw [hW6]; exact ((Tn.refl [g2] W5).alloc _).setCell (.inl (by simp)) _
  have hQ6 : Blk W6 q 102 #[.slice none 0 0] := by
    rw [hW6, hq]
    exact (Blk.new W5 _ _).far (p := ⟨g2, 0, none⟩) (fun e => hm2 e.symm) _
  have h26 : Blk W6 g2 50 #[.pointer (some ⟨q, 0, none⟩)] := by rw [hW6, hq]; exact (j2.alloc _).set_ 0 _
  have h36 : Blk W6 g3 3 #[vi 0] := j3.tn hT6 (by simp; exact fun e => HG.out.1 e.symm)
  have h46 : Blk W6 g4 36 #[.nilIface] := j4.tn hT6 (by simp; exact fun e => HG.out.2.1 e.symm)
  have hR6 : RT W6 r 1 ((0 : Nat) : Int) := hR5.tn hT6 (by simp; exact fun e => hne _ (.inl rfl) e.symm)
  have hb6 : Below w.heap.size w W6 := hb5.trans (hT6.below (B := w.heap.size) (by simp; exact HG.out.2.2.2.1) hb5.size)
  have hqr : q ≠ r := fun e => hQ6.ne_ hR6 (by decide) e
  have hq2 : q ≠ g2 := fun e => hQ6.ne_ h26 (by decide) e
  have hqw : w.heap.size ≤ q := by rw [hq]; exact hb5.size
  have H6 := Lib.hid (And.intro hb6 (And.intro hQ6 (And.intro h26 (And.intro h36 (And.intro h46 (And.intro hR6 (And.intro hqr (And.intro hq2 hqw))))))))
  have HW6 := Lib.hid (And.intro hW6 hq)
  have c2' := ((j2.alloc (.cells #[.slice none 0 0] 102)).cell 0).trans (show _ = some (.pointer none) from rfl)
  have u2' := (j2.alloc (.cells #[.slice none 0 0] 102)).frozen 0
  clear hne hrw j2 j3 j4 hb5 hq hW6 hT6 hQ6 h26 h36 h46 hR6 hb6 hqr hq2 hqw hR5 hT5
  go_wp2
  rw [← HW6.out.1]
  clear c2 u2 c2' u2' hm2
  go_loopw [22] (fun _ wr => W6 = wr ∨ (ProgT wr q ∧ RT wr r 14 ((0 : Nat) : Int) ∧ Blk wr g2 50 #[.pointer (some ⟨q, 0, none⟩)] ∧ Blk wr g3 3 #[vi 0] ∧ Blk wr g4 36 #[.nilIface] ∧ Below w.heap.size w wr)) (fun _ wr => 30 - nextOf wr r)
  case atStart => exact .inl rfl
  case round =>
    rename World => wi
    rcases hrel with rfl | ⟨hP, hR, h2, h3, h4, hb⟩
    · have t2 := (Blk.cell H6.out.2.2.2.2.2.1 2).trans (show _ = some (vi 1) from rfl)
      go_upto_region 8 with (fail)
      clear t2
      have KS : Hid (∀ W, Tn [r, q] W6 W → W.cell? ⟨g2, 0, none⟩ = some (.pointer (some ⟨q, 0, none⟩))) := Lib.hid fun W hW => ((H6.out.2.2.1.tn hW (by simp; exact ⟨HNE.out _ (.inl rfl), fun e => H6.out.2.2.2.2.2.2.2.1 e.symm⟩)).cell 0).trans rfl
      have KC : Hid (∀ W, Tn [r] W6 W → W.cell? ⟨q, 0, none⟩ = some (.slice none 0 0)) := Lib.hid fun W hW => ((H6.out.2.1.tn hW (by simp; exact H6.out.2.2.2.2.2.2.1)).cell 0).trans rfl
      refine' wp_fixed4 _ (fun f s7 gq kq W => Tn [r, q] W6 W ∧ ProgT W q ∧ RT W r 14 ((0 : Nat) : Int)) ?reg8 ?next8
      case reg8 =>
       refine wp_region_N (S := fun W => W.cell? ⟨g2, 0, none⟩ = some (.pointer (some ⟨q, 0, none⟩))) (C := fun W => W.cell? ⟨q, 0, none⟩ = some (.slice none 0 0)) 11 (by kernel_rfl) ?_
       obtain ⟨wd, hwd⟩ : ∃ X, X = W6.drew := ⟨_, rfl⟩
       rw [← hwd]
       have Twd : Hid (Tn [r] W6 wd ∧ RT wd r 1 ((0 : Nat) : Int)) := Lib.hid ⟨by rw [hwd]; exact (Tn.refl _ _).drew, by rw [hwd]; exact H6.out.2.2.2.2.2.1⟩
       have xs := KS.out _ (Twd.out.1.more (by simp))
       have xc := KC.out _ Twd.out.1
       clear hwd
       refine wpAnyN_takeS (i := 0) rfl rfl (by kernel_rfl) (by kernel_rfl) (by kernel_rfl) (fun _ _ _ h => h) (by decide) (Or.inl ⟨by rfl, by (intro w hSw; (try dsimp only at hSw); go_simp; try with_reducible rfl)⟩) (by assumption) (fun _ => by assumption) ?_
       (try simp only [Act.put, List.setIfInBounds_toArray, List.set_cons_zero, List.set_cons_succ])
       refine wpAnyN_takeS (i := 1) rfl rfl (by kernel_rfl) (by kernel_rfl) (by kernel_rfl) (fun _ _ _ h => h) (by decide) (Or.inl ⟨by rfl, by (intro w hSw; (try dsimp only at hSw); go_simp; try with_reducible rfl)⟩) (by assumption) (fun _ => by assumption) ?_
       (try simp only [Act.put, List.setIfInBounds_toArray, List.set_cons_zero, List.set_cons_succ])
       refine wpAnyN_takeS (i := 2) rfl rfl (by kernel_rfl) (by kernel_rfl) (by kernel_rfl) (fun _ _ _ h => h) (by decide) (Or.inl ⟨by rfl, by (intro w hSw; (try dsimp only at hSw); go_simp; try with_reducible rfl)⟩) (by assumption) (fun _ => by assumption) ?_
       (try simp only [Act.put, List.setIfInBounds_toArray, List.set_cons_zero, List.set_cons_succ])
       refine wpAnyN_takeS (i := 3) rfl rfl (by kernel_rfl) (by kernel_rfl) (by kernel_rfl) (fun _ _ _ h => h) (by decide) (Or.inl ⟨by rfl, by (intro w hSw; (try dsimp only at hSw); go_simp; try with_reducible rfl)⟩) (by assumption) (fun _ => by assumption) ?_
       (try simp only [Act.put, List.setIfInBounds_toArray, List.set_cons_zero, List.set_cons_succ])
       refine wpAnyN_takeS (i := 5) rfl rfl (by kernel_rfl) (by kernel_rfl) (by kernel_rfl) (fun _ _ _ h => h) (by decide) (Or.inl ⟨by rfl, by (intro w hSw; (try dsimp only at hSw); go_simp; try with_reducible rfl)⟩) (by assumption) (fun _ => by assumption) ?_
       (try simp only [Act.put, List.setIfInBounds_toArray, List.set_cons_zero, List.set_cons_succ])
       refine wpAnyN_take (i := 4) rfl rfl (by kernel_rfl) (by kernel_rfl) (by kernel_rfl) (fun _ _ _ h => h) (by decide) (by kernel_rfl) (by kernel_rfl) (Or.inl ⟨by rfl, by (intro w hSw; (try dsimp only at hSw); go_simp; try with_reducible rfl)⟩) (by assumption) (by assumption) ?_
       (try simp only [Act.put, List.setIfInBounds_toArray, List.set_cons_zero, List.set_cons_succ])
       refine wpAnyN_ready (rs := [6]) (by kernel_rfl) (by simp) (AllReadyN.cons rfl (fun K hK => ?_) AllReadyN.nil)
       go_simp
       refine (HFN.out wd Twd.out.2).mono ?_
       rintro _ W7 ⟨f, rfl, hF7, hR7, hT7⟩
       have T7 := Lib.hid (And.intro (Twd.out.1.trans hT7) (And.intro hF7 hR7))
       have xs := KS.out _ (T7.out.1.more (by simp))
       have xc := KC.out _ T7.out.1
       clear hF7 hR7 hT7
       refine hK.out _ _ xs (fun _ => xc) ?_
       clear hK K
       (try simp only [Act.put, List.setIfInBounds_toArray, List.set_cons_zero, List.set_cons_succ])
       refine wpAnyN_ready (rs := [7]) (by kernel_rfl) (by simp) (AllReadyN.cons rfl (fun K hK => ?_) AllReadyN.nil)
       go_simp
       obtain ⟨s7, hs7⟩ : ∃ s, s = W7.heap.size := ⟨_, rfl⟩
       rw [← hs7]
       obtain ⟨W8, hW8⟩ : ∃ X, X = W7.alloc (.cells #[.pointer (some ⟨f, 0, none⟩)] 103) := ⟨_, rfl⟩
       rw [← hW8]
       have hb78 : Below W7.heap.size W7 W8 := by rw [hW8]; exact (Below.refl _ _).alloc (Nat.le_refl _) _
       have T8 : Hid (Tn [r] W6 W8 ∧ Blk W8 s7 103 #[.pointer (some ⟨f, 0, none⟩)] ∧ FnT W8 f ∧ RT W8 r 14 ((0 : Nat) : Int)) := Lib.hid ⟨T7.out.1.trans (Tn.of_below hb78), by rw [hW8, hs7]; exact Blk.new _ _ _, T7.out.2.1.below hb78, T7.out.2.2.below hb78⟩
       have xs := KS.out _ (T8.out.1.more (by simp))
       have xc := KC.out _ T8.out.1
       clear hW8 hb78 hs7
       refine hK.out _ _ xs (fun _ => xc) ?_
       clear hK K
       (try simp only [Act.put, List.setIfInBounds_toArray, List.set_cons_zero, List.set_cons_succ])
       refine wpAnyN_ready (rs := [8]) (by kernel_rfl) (by simp) (AllReadyN.cons rfl (fun K hK => ?_) AllReadyN.nil)
       refine step_appSG 100 103 _ 1 8 Tryz.underlying100 info_pf (by rfl) (by omega) W8 s7 [.pointer (some ⟨f, 0, none⟩)] (by rfl) (by simp [Value.oneCell']) (by rfl) _ _ (by rfl) 0 (.slice none 0 0) 0 [] (by rfl) (by rfl) (by
         intro j u hj
         rw [Blk.cell T8.out.2.1 j]
         simpa using hj) (World.ownsRow_nil _ _ _ _) (by simp [maxLen]) (by omega) (Nat.zero_le _) ?_
       intro v W9 p1 p2 p3
       have hb89 : Below W8.heap.size W8 W9 := ⟨p2.os, p2.tape, p2.output, p2.size, fun k hk => p2.block k hk (by simp [Value.ownBlock])⟩
       have T9 : Hid (Tn [r] W6 W9 ∧ W9.ownsRow 0 103 1 v 1 [.pointer (some ⟨f, 0, none⟩)] ∧ FnT W9 f ∧ RT W9 r 14 ((0 : Nat) : Int)) := Lib.hid ⟨T8.out.1.trans (Tn.of_below hb89), p1, T8.out.2.2.1.below hb89, T8.out.2.2.2.below hb89⟩
       have xs := KS.out _ (T9.out.1.more (by simp))
       have xc := KC.out _ T9.out.1
       clear p1 p2 p3 hb89
       change K (Act.put _ (some 32) _) _
       refine hK.out _ _ xs (fun _ => xc) ?_
       clear hK K
       (try simp only [Act.put, List.setIfInBounds_toArray, List.set_cons_zero, List.set_cons_succ])
       refine wpAnyN_takeS (i := 9) rfl rfl (by kernel_rfl) (by kernel_rfl) (by kernel_rfl) (fun _ _ _ h => h) (by decide) (Or.inl ⟨by rfl, by (intro w hSw; (try dsimp only at hSw); go_simp; try with_reducible rfl)⟩) (by assumption) (fun _ => by assumption) ?_
       (try simp only [Act.put, List.setIfInBounds_toArray, List.set_cons_zero, List.set_cons_succ])
       refine wpAnyN_takeS (i := 10) rfl rfl (by kernel_rfl) (by kernel_rfl) (by kernel_rfl) (fun _ _ _ h => h) (by decide) (Or.inl ⟨by rfl, by (intro w hSw; (try dsimp only at hSw); go_simp; try with_reducible rfl)⟩) (by assumption) (fun _ => by assumption) ?_
       (try simp only [Act.put, List.setIfInBounds_toArray, List.set_cons_zero, List.set_cons_succ])
       obtain ⟨gq, kq, cuq, hvq, _, hBq, hcq⟩ := row1_at T9.out.2.1
       subst hvq
       have hQ9 := H6.out.2.1.tn T9.out.1 (by simp; exact H6.out.2.2.2.2.2.2.1)
       have fq := hQ9.frozen 0
       have yq := (hQ9.cell 0).trans (show _ = some (.slice none 0 0) from rfl)
       refine wpAnyN_ready (rs := [11]) (by kernel_rfl) (by simp) (AllReadyN.cons rfl (fun K hK => ?_) AllReadyN.nil)
       go_simp
       obtain ⟨W10, hW10⟩ : ∃ X, X = W9.setCell ⟨q, 0, none⟩ (.slice (some ⟨gq, 0, none⟩) 1 kq) := ⟨_, rfl⟩
       rw [← hW10]
       have hT9q : Tn [q] W9 W10 := by rw [hW10]; exact (Tn.refl _ _).setCell (.inl (by simp)) _
       have hT10 : Tn [r, q] W6 W10 := (T9.out.1.more (by simp)).trans (hT9q.more (by simp))
       have hQ10 : Blk W10 q 102 #[.slice (some ⟨gq, 0, none⟩) 1 kq] := by rw [hW10]; exact hQ9.set_ 0 _
       have hG10 : Blk W10 gq 103 cuq := hBq.tn hT9q (by simp; exact fun e => hBq.ne_ hQ9 (by decide) e)
       have hF10 : FnT W10 f := T9.out.2.2.1.tnr (r := q) hT9q (fun x hx t cs hB => by
         simp only [List.mem_singleton] at hx
         subst hx
         refine ⟨?_, ?_, ?_, ?_⟩ <;> (intro e; subst e; exact hB.ne_ hQ9 (by decide) rfl))
       have hR10 : RT W10 r 14 ((0 : Nat) : Int) := T9.out.2.2.2.tn hT9q (by simp; exact fun e => H6.out.2.2.2.2.2.2.1 e.symm)
       have T10 := Lib.hid (And.intro hT10 (And.intro (show ProgT W10 q from ⟨gq, kq, f, cuq, hQ10, hG10, hcq, hF10⟩) hR10))
       have xs := KS.out _ hT10
       clear hT9q hT10 hQ10 hG10 hF10 hR10 hW10 hQ9 fq yq xc hBq hcq
       refine hK.out _ _ xs (fun h => absurd h (by decide)) ?_
       clear hK K
       (try simp only [Act.put, List.setIfInBounds_toArray, List.set_cons_zero, List.set_cons_succ])
       refine wpAnyN_done (by kernel_rfl) ?_ _
       refine ⟨f, s7, gq, kq, ?_, ?_⟩
       rotate_left
       exact Eq.refl _
       exact T10.out
      case next8 =>
      intro f s7 gq kq W10 h10
      have T10 := Lib.hid h10
      clear h10
      go_wp2
      have hm : ∀ g, g = g2 ∨ g = g3 ∨ g = g4 → ¬ g ∈ [r, q] := fun g hg hx => by
        simp at hx
        rcases hx with e | e
        · exact HNE.out g hg e
        · subst e
          rcases hg with e | e | e
          · subst e; exact H6.out.2.1.ne_ H6.out.2.2.1 (by decide) rfl
          · subst e; exact H6.out.2.1.ne_ H6.out.2.2.2.1 (by decide) rfl
          · subst e; exact H6.out.2.1.ne_ H6.out.2.2.2.2.1 (by decide) rfl
      refine ⟨.inr ⟨T10.out.2.1, T10.out.2.2, H6.out.2.2.1.tn T10.out.1 (hm _ (.inl rfl)), H6.out.2.2.2.1.tn T10.out.1 (hm _ (.inr (.inl rfl))), H6.out.2.2.2.2.1.tn T10.out.1 (hm _ (.inr (.inr rfl))), H6.out.1.trans (T10.out.1.below (B := w.heap.size) (fun k hk => by
        simp at hk
        rcases hk with rfl | rfl
        · exact HRW.out
        · exact H6.out.2.2.2.2.2.2.2.2) H6.out.1.size)⟩, ?_⟩
      rw [nextOf_rd T10.out.2.2, nextOf_rd H6.out.2.2.2.2.2.1]
      decide
    · have t2 := (Blk.cell hR 2).trans (show _ = some (vi 0) from rfl)
      have c2 := (h2.cell 0).trans (show _ = some (.pointer (some ⟨q, 0, none⟩)) from rfl)
      have HCK := Lib.hid (check_yes q 24 wi hP)
      have H8 := Lib.hid (And.intro hP (And.intro h2 (And.intro h3 (And.intro h4 hb))))
      clear hP hR h2 h3 h4 hb
      go_wp2_with fail
      refine HCK.out.mono ?_
      rintro _ W8 ⟨rfl, hb8⟩
      have i2 := H8.out.2.1.below hb8 H8.out.2.1.lt
      have i3 := H8.out.2.2.1.below hb8 H8.out.2.2.1.lt
      have i4 := H8.out.2.2.2.1.below hb8 H8.out.2.2.2.1.lt
      have d2 := (i2.cell 0).trans (show _ = some (.pointer (some ⟨q, 0, none⟩)) from rfl)
      have d3 := (i3.cell 0).trans (show _ = some (vi 0) from rfl)
      have d4 := (i4.cell 0).trans (show _ = some .nilIface from rfl)
      have v2 := i2.frozen 0
      have v3 := i3.frozen 0
      have v4 := i4.frozen 0
      have H9 := Lib.hid (And.intro (H8.out.1.below hb8) (And.intro i2 (And.intro i3 (And.intro i4 (H8.out.2.2.2.2.trans (hb8.mono H8.out.2.2.2.2.size))))))
      clear hb8 i2 i3 i4 t2 c2
      have n32 : ¬ g3 = g2 := fun e => HG.out.1 e.symm
      have n42 : ¬ g4 = g2 := fun e => HG.out.2.1 e.symm
      have n43 : ¬ g4 = g3 := fun e => HG.out.2.2.1 e.symm
      have n23 : ¬ g2 = g3 := HG.out.1
      have n24 : ¬ g2 = g4 := HG.out.2.1
      have n34 : ¬ g3 = g4 := HG.out.2.2.1
      go_wp2
      obtain ⟨W9, hW9⟩ : ∃ W9, W9 = ((W8.setCell ⟨g2, 0, none⟩ (.pointer (some ⟨q, 0, none⟩))).setCell ⟨g3, 0, none⟩ (vi 0)).setCell ⟨g4, 0, none⟩ .nilIface := ⟨_, rfl⟩
      rw [← hW9]
      have e2 : W9.cell? ⟨g2, 0, none⟩ = some (.pointer (some ⟨q, 0, none⟩)) := by
        rw [hW9]
        exact ((((H9.out.2.1.set_ 0 _).far (p := ⟨g3, 0, none⟩) n23 _).far (p := ⟨g4, 0, none⟩) n24 _).cell 0).trans rfl
      have e3 : W9.cell? ⟨g3, 0, none⟩ = some (vi 0) := by
        rw [hW9]
        exact ((((H9.out.2.2.1.far (p := ⟨g2, 0, none⟩) n32 _).set_ 0 _).far (p := ⟨g4, 0, none⟩) n34 _).cell 0).trans rfl
      have e4 : W9.cell? ⟨g4, 0, none⟩ = some .nilIface := by
        rw [hW9]
        exact ((((H9.out.2.2.2.1.far (p := ⟨g2, 0, none⟩) n42 _).far (p := ⟨g3, 0, none⟩) n43 _).set_ 0 _).cell 0).trans rfl
      have hT9 : Tn [g2, g3, g4] W8 W9 := by
        rw [hW9]
        exact (((Tn.refl _ _).setCell (.inl (by simp)) _).setCell (.inl (by simp)) _).setCell (.inl (by simp)) _
      have hP9 : ProgT W9 q := by
        obtain ⟨gq, cq, f, cuq, p1, p2, p3, p4⟩ := H9.out.1
        have hno : ∀ x ∈ [g2, g3, g4], ∀ t cs, Blk W8 x t cs → t = 50 ∨ t = 3 ∨ t = 36 := fun x hx t cs hB => by
          simp at hx
          rcases hx with rfl | rfl | rfl
          · exact .inl (Classical.byContradiction fun h => hB.ne_ H9.out.2.1 h rfl)
          · exact .inr (.inl (Classical.byContradiction fun h => hB.ne_ H9.out.2.2.1 h rfl))
          · exact .inr (.inr (Classical.byContradiction fun h => hB.ne_ H9.out.2.2.2.1 h rfl))
        refine ⟨gq, cq, f, cuq, p1.tn hT9 (fun hm => ?_), p2.tn hT9 (fun hm => ?_), p3, p4.tnr (r := q) hT9 (fun x hx t cs hB => ?_)⟩
        · rcases hno q hm _ _ p1 with e | e | e <;> exact absurd e (by decide)
        · rcases hno gq hm _ _ p2 with e | e | e <;> exact absurd e (by decide)
        · rcases hno x hx t cs hB with rfl | rfl | rfl <;> exact ⟨by decide, by decide, by decide, by decide⟩
      have HE := Lib.hid (And.intro hP9 (H9.out.2.2.2.2.trans (hT9.below (B := w.heap.size) (fun k hk => by
        simp at hk
        have := HG.out
        omega) H9.out.2.2.2.2.size)))
      clear hW9 hT9 hP9 d2 d3 d4 v2 v3 v4 n32 n42 n43 n23 n24 n34
      refine leaves_cons (f := 43) (args := #[.pointer (some ⟨g2, 0, none⟩), .pointer (some ⟨g3, 0, none⟩), .pointer (some ⟨g4, 0, none⟩)]) (by simp) (by simp [go_sem]) ?_
      refine (parse_idle ⟨g2, 0, none⟩ ⟨g3, 0, none⟩ ⟨g4, 0, none⟩ W9).mono ?_
      rintro e u' w'' ⟨rfl, rfl, rfl⟩
      simp [Leaves, settle, results, Tryz.results16, go_sem, e2, e3, e4]
      exact HE.out
end Go.Proofs.YtpkhcncempoohaaGreatDoor

namespace Go.Proofs.YtpkhcncempoohaaGreatDoor
open Go.RowKit Zp
theorem own_emptyT (w : World) (e : TypeId) (sz base : Nat) (hb : base ≤ w.heap.size) : (w.alloc (.cells #[] e)).ownsRow base e sz (.slice (some ⟨w.heap.size, 0, none⟩) 0 0) 0 [] :=
  World.ownsRow_made w _ 0 hb (Nat.zero_le _) (by simp)
theorem wpList_appT {ops : Array Oper} {rest : List Oper} {o : Oper} {a : Act} {Q : Exit → Act → World → Prop} (t e : TypeId) (z : Value) (sz by_ : Nat) (ht : Tryz.prog.underlying t = some (.slice e)) (hinf : (Tryz.prog.info? e).map (fun i => (i.zero, i.size, i.bytes)) = some (some z, sz, by_)) (hzs : z.cells.size = sz) (hsz : 0 < sz)
    (w : World) (hgd : o.guard = none) (s x : Operand) (ho : o.op = .call { callee := .builtin .append, args := #[s, x], argTypes := #[t, t] })
    (base : Nat) (v : Value) (n : Nat) (xs : List Value) (A : Option Addr) (m c : Nat) (news : List Value) (hs : a.eval s = v) (hx : a.eval x = .slice A m c) (hown : w.ownsRow base e sz v n xs) (B : Nat) (hr : Reads w B sz A m news) (hone : ∀ u ∈ news, u.oneCell' = true) (h63 : n + m ≤ maxLen) (hby : (n + m) * by_ ≤ 140737488355328) (hbase : base ≤ w.heap.size)
    (h : ∀ v' w', w'.ownsRow base e sz v' (n + m) (xs ++ news) → w.grownBy w' v.ownBlock → wpList Tryz.prog ops Q rest (a.put o.dst v') w') : wpList Tryz.prog ops Q (o :: rest) a w :=
  wpList_plain hgd fun _ hK => by
    obtain ⟨i0, hi, hz0, hz1, hz2⟩ := info_parts hinf
    obtain ⟨v', w', hrun, h1, h2, _⟩ := run_append_any (P := Tryz.prog) w base t o.type e i0 z sz by_ ht hi hz0 hz1 hz2 hzs hsz v n xs hown B A m c news hr hone h63 hby hbase
    unfold Oper.wp execOp
    simp only [ho, resolve, invoke, builtin, Sem.run_bind, Sem.run_pure, Result.andThen_ok, List.map_toArray, List.map_cons, List.map_nil, hs, hx, hrun]
    exact hK _ _ (h v' w' h1 h2)
set_option maxHeartbeats 1000000 in
theorem find1_any (fn c3 : Nat) (w : World) (h0 : w.cell? ⟨fn, 0, none⟩ = some (.string ⟨#[109, 97, 105, 110]⟩)) (h1 : w.cell? ⟨c3, 0, none⟩ = some (.string ⟨#[109, 97, 105, 110]⟩)) :
    Calls Tryz.prog 136 #[.pointer (some ⟨fn, 0, none⟩), .pointer (some ⟨c3, 0, none⟩)] w fun e w' => e = .returned (.bool true) ∧ Below w.heap.size w w' := by
  go_enter Tryz.func136, Tryz.ntmps136
  go_upto_region 1 with (fail)
  go_quiet (fail)
  go_wp2
  go_ret
  exact ⟨rfl, below_drewN (Below.refl _ _) _⟩
set_option maxRecDepth 100000 in
set_option maxHeartbeats 1000000 in
theorem index_fn (gq cq fn c3 : Nat) (w : World) (hg : w.cell? ⟨gq, 0, none⟩ = some (.pointer (some ⟨fn, 0, none⟩))) (h0 : w.cell? ⟨fn, 0, none⟩ = some (.string ⟨#[109, 97, 105, 110]⟩)) (h1 : w.cell? ⟨c3, 0, none⟩ = some (.string ⟨#[109, 97, 105, 110]⟩)) :
    Calls Tryz.prog 135 #[.slice (some ⟨gq, 0, none⟩) 1 cq, .func (.func 136) #[] #[.pointer (some ⟨c3, 0, none⟩)]] w fun e w' => e = .returned (vi 0) ∧ Below w.heap.size w w' := by
  have HF := Lib.hid (find1_any fn c3 w h0 h1)
  go_enter Tryz.func135, Tryz.ntmps135
  go_wp2
  go_loopw [8] (fun i wr => i = vi 0 ∧ w = wr) (fun i _ => 0)
  case atStart => exact ⟨rfl, rfl⟩
  case round =>
    obtain ⟨rfl, rfl⟩ := hrel
    go_wp2_with fail
    refine HF.out.mono ?_
    rintro _ w3 ⟨rfl, hb3⟩
    clear hg h0 h1
    go_wp2
    go_ret
    exact ⟨rfl, hb3⟩
set_option maxRecDepth 100000 in
set_option maxHeartbeats 1000000 in
theorem find_main (q gq cq fn : Nat) (cu : Array Value) (w : World) (hq : Blk w q 102 #[.slice (some ⟨gq, 0, none⟩) 1 cq]) (hg : Blk w gq 103 cu) (hc : cu[0]? = some (.pointer (some ⟨fn, 0, none⟩))) (h0 : w.cell? ⟨fn, 0, none⟩ = some (.string ⟨#[109, 97, 105, 110]⟩)) :
    Calls Tryz.prog 88 #[.pointer (some ⟨q, 0, none⟩), .string ⟨#[109, 97, 105, 110]⟩] w fun e w' => e = .returned (.pointer (some ⟨fn, 0, none⟩)) ∧ Below w.heap.size w w' := by
  obtain ⟨c3, hc3⟩ : ∃ c, c = w.heap.size := ⟨_, rfl⟩
  obtain ⟨w1, hw1⟩ : ∃ W, W = w.alloc (.cells #[.string ⟨#[109, 97, 105, 110]⟩] 9) := ⟨_, rfl⟩
  have hb1 : Below w.heap.size w w1 := by rw [hw1]; exact (Below.refl _ _).alloc (Nat.le_refl _) _
  have k3 : w1.cell? ⟨c3, 0, none⟩ = some (.string ⟨#[109, 97, 105, 110]⟩) := by rw [hw1, hc3]; exact ((Blk.new w _ _).cell 0).trans rfl
  have HI := Lib.hid (index_fn gq cq fn c3 w1 (((hg.below hb1 hg.lt).cell 0).trans hc) ((hb1.cell (block_lt_of_cell h0)).trans h0) k3)
  have kq := ((hq.below hb1 hq.lt).cell 0).trans (show _ = some (.slice (some ⟨gq, 0, none⟩) 1 cq) from rfl)
  have hmf : ∀ (fn : Fn) (first cap : Array Value) (w : World), (Instr.makeFunc fn first cap).run Tryz.prog w = .ok (.func fn first cap) w := fun _ _ _ _ => rfl
  have HW := Lib.hid (And.intro hw1 (And.intro hc3 hb1))
  have HQ := Lib.hid (And.intro (hq.below hb1 hq.lt) (And.intro (hg.below hb1 hg.lt) hc))
  clear hw1 hc3 hb1 k3 hq hg hc h0
  go_enter Tryz.func88, Tryz.ntmps88
  go_upto_region 1 with (fail)
  rw [← HW.out.1, ← HW.out.2.1]
  go_wp2_with fail
  refine HI.out.mono ?_
  rintro _ w2 ⟨rfl, hb2⟩
  have e0 := ((HQ.out.1.below hb2 HQ.out.1.lt).cell 0).trans (show _ = some (.slice (some ⟨gq, 0, none⟩) 1 cq) from rfl)
  have e1 := ((HQ.out.2.1.below hb2 HQ.out.2.1.lt).cell 0).trans HQ.out.2.2
  have H2 := Lib.hid (HW.out.2.2.trans (hb2.mono HW.out.2.2.size))
  clear hb2 kq hmf
  go_wp2
  go_ret
  exact ⟨rfl, H2.out⟩
set_option maxHeartbeats 1000000 in
theorem args_any (q : Nat) (w : World) (h : ProgT w q) : Calls Tryz.prog 47 #[.pointer (some ⟨q, 0, none⟩)] w fun e w' => e = .returned (vi 1) ∧ Below w.heap.size w w' := by
  obtain ⟨gq, cq, f, cu, hq, hg, hc, x, A0, ⟨gn, cn, cun, V, hf1, hf2, hf3⟩, hPx⟩ := h
  have HFM := Lib.hid (find_main q gq cq f cu w hq hg hc ((hf1.cell 0).trans rfl))
  have HF := Lib.hid hf1
  clear hq hg hc hf1 hf2 hf3 hPx
  go_enter Tryz.func47, Tryz.ntmps47
  go_wp2_with fail
  refine HFM.out.mono ?_
  rintro _ w2 ⟨rfl, hb2⟩
  have e1 := ((HF.out.below hb2 HF.out.lt).cell 1).trans (show _ = some (.slice (some ⟨gn, 0, none⟩) 1 cn) from rfl)
  have H2 := Lib.hid hb2
  clear hb2
  go_wp2
  go_ret
  exact ⟨rfl, H2.out⟩
set_option maxHeartbeats 1000000 in
theorem clone_fn (gq cq fn : Nat) (w : World) (hg : w.cell? ⟨gq, 0, none⟩ = some (.pointer (some ⟨fn, 0, none⟩))) :
    Calls Tryz.prog 89 #[.slice (some ⟨gq, 0, none⟩) 1 cq] w fun e w' => ∃ g c, e = .returned (.slice (some ⟨g, 0, none⟩) 1 c) ∧ w'.cell? ⟨g, 0, none⟩ = some (.pointer (some ⟨fn, 0, none⟩)) ∧ Below w.heap.size w w' := by
  have hq := fun (W : World) => Lib.run_eql_slice_nil (P := Tryz.prog) W 100 103 (some ⟨gq, 0, none⟩) 1 cq 0 0 Tryz.underlying100
  have hb0 : Below w.heap.size w (w.alloc (.cells #[] 103)) := (Below.refl _ _).alloc (Nat.le_refl _) _
  have hr : Reads (w.alloc (.cells #[] 103)) (gq + 1) 1 (some ⟨gq, 0, none⟩) 1 [.pointer (some ⟨fn, 0, none⟩)] := ⟨rfl, fun _ => ⟨_, rfl, Nat.lt_succ_self _, fun j u hj => by
    cases j with
    | zero =>
      injection hj with hj
      rw [← hj]
      exact (hb0.cell (block_lt_of_cell hg)).trans hg
    | succ j => simp at hj⟩⟩
  have ho := own_emptyT w 103 1 w.heap.size (Nat.le_refl _)
  have HR := Lib.hid (And.intro hr (And.intro ho hb0))
  clear hr ho hb0 hg
  go_enter Tryz.func89, Tryz.ntmps89
  go_wp2_with (at_builtin; refine wpList_appT 100 103 _ 1 8 Tryz.underlying100 info_pf (by rfl) (by omega) _ rfl _ _ rfl w.heap.size _ 0 [] (some ⟨gq, 0, none⟩) 1 cq _ rfl rfl HR.out.2.1 (gq + 1) HR.out.1 (by simp [Value.oneCell']) (by simp [maxLen]) (by omega) (by simp) ?_; intro v' w1 h1 h2)
  obtain ⟨g, c, cur, rfl, hbg, hB, hcur⟩ := row1_at h1
  go_ret
  refine ⟨g, c, rfl, (hB.cell 0).trans hcur, ?_⟩
  exact HR.out.2.2.grown h2 HR.out.2.2.size (fun k hk => by injection hk with hk; rw [← hk]; exact Nat.le_refl _)
end Go.Proofs.YtpkhcncempoohaaGreatDoor

namespace Go.Proofs.YtpkhcncempoohaaGreatDoor
open Go.RowKit Zp
def codeL0 : List InsI := [⟨5, 0, 0, 0⟩, ⟨13, 0, 0, 0⟩, ⟨10, 0, 0, 0⟩, ⟨12, 1, 0, 0⟩, ⟨0, 1, 0, 0⟩, ⟨5, 4, 1, 0⟩, ⟨1, 0, 4, 3⟩, ⟨3, 0, 3, 2⟩, ⟨11, 2, 0, 0⟩]
def codeL : List InsI := [⟨5, 0, 0, 0⟩, ⟨13, 0, 0, 0⟩, ⟨10, 5, 5, 0⟩, ⟨12, 1, 0, 0⟩, ⟨0, 1, 0, 0⟩, ⟨5, 4, 1, 0⟩, ⟨1, 0, 4, 3⟩, ⟨3, 0, 3, 2⟩, ⟨11, 2, 0, 0⟩]
def codeL6 : List InsI := [⟨5, 0, 6, 0⟩, ⟨13, 0, 0, 0⟩, ⟨10, 5, 5, 0⟩, ⟨12, 1, 0, 0⟩, ⟨0, 1, 0, 0⟩, ⟨5, 4, 1, 0⟩, ⟨1, 0, 4, 3⟩, ⟨3, 0, 3, 2⟩, ⟨11, 2, 0, 0⟩]
theorem KpI.of_below {X : List Nat} {B : Nat} {a b : World} (h : Below a.heap.size a b) (hB : B ≤ a.heap.size) : KpI X B a b := ⟨h.mono hB, fun g hg _ _ => h.block g hg⟩
theorem KpI.insCell {X : List Nat} {B : Nat} {a b : World} (h : KpI X B a b) {q : Addr} {cs : Array Value} (hq : Blk b q.block 121 cs) (hB : B ≤ q.block) (u : Value) : KpI X B a (b.setCell q u) :=
  ⟨h.below.setCell hB u, fun g hg hX hn => (Below.heap_setCell b q u g (fun e => by
    have e2 := h.keep g hg hX hn
    exact hn cs (by rw [Blk, ← e2, e]; exact hq))).trans (h.keep g hg hX hn)⟩
theorem WS.blkb {w : World} {B b : Nat} {L : List InsI} {C : List (Int × ByteArray)} (h : WS w B b L C) : ∃ t cs, Blk w b t cs := by
  obtain ⟨h0, vL, vC, h1, h2, h3⟩ := h
  exact ⟨_, _, h1⟩
theorem rowLw_base {w : World} {base base' sz n : Nat} {e : TypeId} {v : Value} {xs : List Value} (h : w.ownsRow base e sz v n xs) (hb : base' ≤ base) : w.ownsRow base' e sz v n xs := by
  refine ⟨h.1, ?_⟩
  rcases h.2 with h0 | ⟨g, cap, cur, hv, hg, rest⟩
  · exact .inl h0
  · exact .inr ⟨g, cap, cur, hv, Nat.le_trans hb hg, rest⟩
theorem rowLw_some {w : World} {base sz n : Nat} {e : TypeId} {v : Value} {xs : List Value} (h : w.ownsRow base e sz v n xs) (hn : 0 < n) : ∃ g c, v = .slice (some ⟨g, 0, none⟩) n c ∧ base ≤ g ∧ n ≤ c ∧ ∃ cs, Blk w g e cs := by
  rcases h.2 with ⟨rfl, h0⟩ | ⟨g, cap, cur, rfl, hb, hh, h1, _⟩
  · omega
  · exact ⟨g, cap, rfl, hb, h1, _, hh⟩
theorem info_call : (Tryz.prog.info? 112).map (fun i => (i.zero, i.size, i.bytes)) = some (some (.agg #[vi 0, .string ⟨#[]⟩]), 2, 24) := by kernel_rfl
theorem WSv.calls {w : World} {B b : Nat} {L : List InsI} {C C' : List (Int × ByteArray)} {v : Value} {vC : Value} (h : WSv w B b L vC C) (hv : OwnL w B v C') : WS (w.setCell ⟨b, 1, none⟩ v) B b L C' := by
  obtain ⟨h0, vL, h1, h2, h3⟩ := h
  refine ⟨h0, vL, v, h1.set_ 1 v, rowLw_keep h2 fun g hg => ?_, rowLw_keep hv fun g hg => ?_⟩
  · obtain ⟨cs, hc⟩ := rowLw_blk h2 hg
    exact Below.heap_setCell _ _ _ _ (Blk.ne_ hc h1 (by decide))
  · obtain ⟨cs, hc⟩ := rowLw_blk hv hg
    exact Below.heap_setCell _ _ _ _ (Blk.ne_ hc h1 (by decide))
theorem clipI_any (A : Option Addr) (n c : Nat) (hn : n ≤ c) (w : World) (hc : A = none → c = 0) :
    Calls Tryz.prog 51 #[.slice A n c] w fun e w' => e = .returned (.slice A n n) ∧ w = w' := by
  cases A with
  | none =>
    obtain rfl := hc rfl
    obtain rfl : n = 0 := by omega
    go_enter Tryz.func51, Tryz.ntmps51
    go_wp2
    go_ret
    exact ⟨rfl, rfl⟩
  | some ad =>
    have t1 : (n : Int) ≤ (c : Int) := by omega
    clear hc
    go_enter Tryz.func51, Tryz.ntmps51
    go_wp2
    go_ret
    exact ⟨rfl, rfl⟩
theorem flatI_at : ∀ (L : List InsI) (i : Nat) (h : i < L.length) (k : Nat), k < 4 → (L.flatMap encI)[i * 4 + k]? = (encI L[i])[k]?
  | [], i, h, _, _ => by simp at h
  | x :: L, 0, h, k, hk => by
    rw [List.flatMap_cons, List.getElem?_append_left (by simp [encI]; omega)]
    simp
  | x :: L, i + 1, h, k, hk => by
    rw [List.flatMap_cons, List.getElem?_append_right (by simp [encI]; omega)]
    have h2 : i < L.length := by simpa using h
    rw [show (i + 1) * 4 + k - (encI x).length = i * 4 + k by simp [encI]; omega, flatI_at L i h2 k hk]
    simp
theorem addr0 (g n : Nat) : (⟨g, 0, none⟩ : Addr).add n = ⟨g, n, none⟩ := by
  unfold Addr.add
  split
  · rename_i h0; subst h0; rfl
  · simp
theorem IT.of_reads {w : World} {g n B : Nat} {L : List InsI} (h : Reads w B 4 (some ⟨g, 0, none⟩) n (L.flatMap encI)) (hn : L.length = n) (hok : ∀ x ∈ L, InsOk x) : IT w (some ⟨g, 0, none⟩) L := fun i hi => by
  obtain ⟨ad, h1, h2, h3⟩ := h.2 (by omega)
  injection h1 with h1
  subst h1
  have hx : ∀ k, (hk : k < 4) → w.cell? ((⟨g, 0, none⟩ : Addr).add (i * 4 + k)) = (encI L[i])[k]? := fun k hk => by
    have e := flatI_at L i hi k hk
    have e2 : (encI L[i])[k]? = some ((encI L[i])[k]'(by simpa [encI] using hk)) := List.getElem?_eq_getElem _
    rw [e2] at e ⊢
    exact h3 _ _ e
  have h0 := hx 0 (by omega)
  have hlt : g < w.heap.size := by
    have e := h0.trans (show _ = some (vi L[i].op) from rfl)
    rw [addr0] at e
    exact block_lt_of_cell e
  exact ⟨_, rfl, hlt, h0.trans rfl, (hx 1 (by omega)).trans rfl, (hx 2 (by omega)).trans rfl, (hx 3 (by omega)).trans rfl, hok _ (List.getElem_mem hi)⟩
theorem IT.of_own {w : World} {base g n c : Nat} {L : List InsI} (h : w.ownsRow base 121 4 (.slice (some ⟨g, 0, none⟩) n c) n (L.flatMap encI)) (hn : L.length = n) (hok : ∀ x ∈ L, InsOk x) : IT w (some ⟨g, 0, none⟩) L := IT.of_reads (Reads.of_own h) hn hok
structure StC (W1 : World) (B b gI cI : Nat) (vC : Value) (c15 m1 m2 : Nat) (W : World) (xs : List Value) : Prop where
  bl : Blk W b 109 #[.slice (some ⟨gI, 0, none⟩) 9 cI, vC]
  cl : Blk W c15 112 #[vi 2, .string ⟨#[109, 97, 105, 110]⟩]
  m1 : MapS W m1 1 (putS (fun _ => 0) [109, 97, 105, 110] 5)
  m2 : MapS W m2 1 (putS (fun _ => 0) [109, 97, 105, 110] 5)
  own : W.ownsRow B 121 4 (.slice (some ⟨gI, 0, none⟩) 9 cI) 9 xs
  kp : KpI [b] B W1 W
theorem StC.set_ {W1 : World} {B b gI cI : Nat} {vC : Value} {c15 m1 m2 : Nat} {W : World} {xs : List Value} (h : StC W1 B b gI cI vC c15 m1 m2 W xs) (j : Nat) (u : Value) : StC W1 B b gI cI vC c15 m1 m2 (W.setCell ⟨gI, j, none⟩ u) (xs.set j u) := by
  obtain ⟨cs, hc⟩ := rowLw_blk h.own (g := gI) rfl
  have hB : B ≤ gI := (World.ownsRow.lt h.own gI rfl).1
  exact ⟨h.bl.far (p := ⟨gI, j, none⟩) (Blk.ne_ h.bl hc (by decide)) u, h.cl.far (p := ⟨gI, j, none⟩) (Blk.ne_ h.cl hc (by decide)) u,
    h.m1.block (Below.heap_setCell _ ⟨gI, j, none⟩ _ _ fun e => h.m1.not (by rw [show m1 = gI from e]; exact hc)), h.m2.block (Below.heap_setCell _ ⟨gI, j, none⟩ _ _ fun e => h.m2.not (by rw [show m2 = gI from e]; exact hc)),
    (World.ownsRow.stored h.own j u).1, h.kp.insCell (q := ⟨gI, j, none⟩) hc hB u⟩
theorem StC.drew {W1 : World} {B b gI cI : Nat} {vC : Value} {c15 m1 m2 : Nat} {W : World} {xs : List Value} (h : StC W1 B b gI cI vC c15 m1 m2 W xs) : StC W1 B b gI cI vC c15 m1 m2 W.drew xs := ⟨h.bl, h.cl, h.m1, h.m2, h.own, h.kp.drew⟩
def RdC (b gI cI c15 m1 m2 : Nat) (W : World) : Prop := W.cell? ⟨b, 0, none⟩ = some (.slice (some ⟨gI, 0, none⟩) 9 cI) ∧ W.cell? ⟨c15, 0, none⟩ = some (vi 2) ∧ W.cell? ⟨c15, 1, none⟩ = some (.string ⟨#[109, 97, 105, 110]⟩) ∧ (Instr.lookup 113 (.map (some m1)) (.string ⟨#[109, 97, 105, 110]⟩) false).run Tryz.prog W = .ok (vi 5) W ∧ (Instr.lookup 113 (.map (some m2)) (.string ⟨#[109, 97, 105, 110]⟩) false).run Tryz.prog W = .ok (vi 5) W
theorem StC.rd {W1 : World} {B b gI cI : Nat} {vC : Value} {c15 m1 m2 : Nat} {W : World} {xs : List Value} (h : StC W1 B b gI cI vC c15 m1 m2 W xs) : RdC b gI cI c15 m1 m2 W := by
  have e : putS (fun _ => 0) [109, 97, 105, 110] 5 (⟨#[109, 97, 105, 110]⟩ : ByteArray).data.toList = 5 := by simp [putS]
  have l1 := h.m1.look ⟨#[109, 97, 105, 110]⟩ (by decide)
  have l2 := h.m2.look ⟨#[109, 97, 105, 110]⟩ (by decide)
  rw [e] at l1 l2
  exact ⟨(h.bl.cell 0).trans rfl, (h.cl.cell 0).trans rfl, (h.cl.cell 1).trans rfl, l1, l2⟩
theorem all_fn (q gq cq fn : Nat) (cu : Array Value) (w : World) (hq : Blk w q 102 #[.slice (some ⟨gq, 0, none⟩) 1 cq]) (hg : Blk w gq 103 cu) (hc : cu[0]? = some (.pointer (some ⟨fn, 0, none⟩))) :
    Calls Tryz.prog 49 #[.pointer (some ⟨q, 0, none⟩)] w fun e w' => ∃ g c, e = .returned (.slice (some ⟨g, 0, none⟩) 1 c) ∧ w'.cell? ⟨g, 0, none⟩ = some (.pointer (some ⟨fn, 0, none⟩)) ∧ Below w.heap.size w w' := by
  have HC := Lib.hid (clone_fn gq cq fn w ((hg.cell 0).trans hc))
  have e0 := (hq.cell 0).trans (show _ = some (.slice (some ⟨gq, 0, none⟩) 1 cq) from rfl)
  clear hq hg hc
  go_enter Tryz.func49, Tryz.ntmps49
  go_wp2_with fail
  refine HC.out.mono ?_
  rintro _ w2 ⟨g, c, rfl, h1, h2⟩
  go_wp2
  go_ret
  exact ⟨g, c, rfl, h1, h2⟩
end Go.Proofs.YtpkhcncempoohaaGreatDoor

namespace Go.Proofs.YtpkhcncempoohaaGreatDoor
open Go.RowKit Zp
set_option maxRecDepth 100000 in
set_option maxHeartbeats 8000000 in
theorem Code_any (bF q p : Nat) (hp : 9 ≤ p) (w : World) (hF : w.cell? ⟨bF, 0, none⟩ = some (vi p)) (h : ProgT w q) :
    Calls Tryz.prog 17 #[.pointer (some ⟨bF, 0, none⟩), .pointer (some ⟨q, 0, none⟩)] w fun e w' => ∃ g, e = .returned (.tuple #[.agg #[vi 2, .slice (some ⟨g, 0, none⟩) 9 9], .nilIface]) ∧ Reads w' w'.heap.size 4 (some ⟨g, 0, none⟩) 9 (codeL.flatMap encI) ∧ Below w.heap.size w w' := by
  obtain ⟨gq, cq, fn, cu, hq, hg, hc, hFn⟩ := h
  obtain ⟨B, hBd⟩ : ∃ B, B = w.heap.size := ⟨_, rfl⟩
  obtain ⟨c4, hc4⟩ : ∃ c, c = w.heap.size := ⟨_, rfl⟩
  obtain ⟨b, hbd⟩ : ∃ c, c = w.heap.size + 1 := ⟨_, rfl⟩
  obtain ⟨W1, hW1⟩ : ∃ W, W = (w.alloc (.cells #[vi 0, .slice none 0 0] 24)).alloc (.cells #[.slice none 0 0, .slice none 0 0] 109) := ⟨_, rfl⟩
  have hb1 : Below w.heap.size w W1 := by rw [hW1]; exact ((Below.refl _ _).alloc (Nat.le_refl _) _).alloc (by simp) _
  have k4 : Blk W1 c4 24 #[vi 0, .slice none 0 0] := by rw [hW1, hc4]; exact (Blk.new w _ _).alloc _
  have kb : Blk W1 b 109 #[.slice none 0 0, .slice none 0 0] := by
    have hh := Blk.new (w.alloc (.cells #[vi 0, .slice none 0 0] 24)) 109 #[.slice none 0 0, .slice none 0 0]
    rw [show (w.alloc (.cells #[vi 0, .slice none 0 0] 24)).heap.size = b by rw [hbd]; simp] at hh
    rw [hW1]
    exact hh
  have hS1 : WSv W1 B b [] (.slice none 0 0) [] := ⟨by omega, _, kb, World.ownsRow_nil _ _ _ _, World.ownsRow_nil _ _ _ _⟩
  have hcb : c4 ≠ b := by omega
  have HB1 := Lib.hid (And.intro hb1 (And.intro k4 (And.intro hS1 (And.intro hcb (And.intro (show B ≤ W1.heap.size by rw [hBd]; exact hb1.size) (And.intro (show B ≤ c4 by omega) (show B ≤ b by omega)))))))
  have HW1 := Lib.hid (And.intro hW1 (And.intro hc4 hbd))
  have HBd := Lib.hid hBd
  have HBW := Lib.hid (fun W (hK : KpI [b] B W1 W) => (show Below w.heap.size w W by rw [← hBd]; rw [← hBd] at hb1; exact hb1.trans hK.below))
  have HSZ := Lib.hid (fun W (hK : KpI [b] B W1 W) => Nat.le_trans (show B ≤ W1.heap.size by rw [hBd]; exact hb1.size) hK.below.size)
  have HQ := Lib.hid (fun W (hW : Below w.heap.size w W) => And.intro (hq.below hW hq.lt) (hg.below hW hg.lt))
  have HP := Lib.hid (fun W (hW : Below w.heap.size w W) => p_any p bF W ((hW.cell (block_lt_of_cell hF)).trans hF))
  have HAR := Lib.hid (args_any q W1 ⟨gq, cq, fn, cu, hq.below hb1 hq.lt, hg.below hb1 hg.lt, hc, hFn.below hb1⟩)
  have HAL := Lib.hid (fun W (hW : Below w.heap.size w W) => all_fn q gq cq fn cu W (hq.below hW hq.lt) (hg.below hW hg.lt) hc)
  have HFN : Hid (∀ W, Below w.heap.size w W → W.cell? ⟨fn, 0, none⟩ = some (.string ⟨#[109, 97, 105, 110]⟩)) := Lib.hid fun W hW => by
    obtain ⟨x, A0, ⟨gn, cn, cun, V, hf1, _⟩, _⟩ := hFn
    exact ((hf1.below hW hf1.lt).cell 0).trans rfl
  have HBO : Hid (∀ W, Below w.heap.size w W → WS W B b [⟨5, 0, 0, 0⟩, ⟨13, 0, 0, 0⟩, ⟨10, 0, 0, 0⟩, ⟨12, 1, 0, 0⟩, ⟨0, 1, 0, 0⟩] [(2, ⟨#[109, 97, 105, 110]⟩)] → Calls Tryz.prog 50 #[.pointer (some ⟨b, 0, none⟩), .pointer (some ⟨fn, 0, none⟩)] W fun e w' => e = .returned (vi 5) ∧ WS w' B b codeL0 [(2, ⟨#[109, 97, 105, 110]⟩)] ∧ KpI [b] B W w') := Lib.hid fun W hW hS => body_any (w0 := w) B b fn [⟨5, 0, 0, 0⟩, ⟨13, 0, 0, 0⟩, ⟨10, 0, 0, 0⟩, ⟨12, 1, 0, 0⟩, ⟨0, 1, 0, 0⟩] [(2, ⟨#[109, 97, 105, 110]⟩)] (by omega) (by omega) hFn (by decide) W (by rw [hBd]; exact hW) hS
  have HA1 : Hid (∀ W, B ≤ W.heap.size → WSv W B b [] (.slice none 0 0) [] → Calls Tryz.prog 48 #[.pointer (some ⟨b, 0, none⟩), vi 5, vi 0, vi 0, vi 0] W fun e w' => e = .returned (vi 0) ∧ WSv w' B b [⟨5, 0, 0, 0⟩] (.slice none 0 0) [] ∧ KpI [b] B W w') := Lib.hid fun W h1 h2 => wadd_v B b [] (.slice none 0 0) [] 5 0 0 0 (by decide) W h1 h2
  have HA2 : Hid (∀ W, B ≤ W.heap.size → WSv W B b [⟨5, 0, 0, 0⟩] (.slice none 0 0) [] → Calls Tryz.prog 48 #[.pointer (some ⟨b, 0, none⟩), vi 13, vi 0, vi 0, vi 0] W fun e w' => e = .returned (vi 1) ∧ WSv w' B b [⟨5, 0, 0, 0⟩, ⟨13, 0, 0, 0⟩] (.slice none 0 0) [] ∧ KpI [b] B W w') := Lib.hid fun W h1 h2 => wadd_v B b [⟨5, 0, 0, 0⟩] (.slice none 0 0) [] 13 0 0 0 (by decide) W h1 h2
  have HA3 : Hid (∀ W, B ≤ W.heap.size → WSv W B b [⟨5, 0, 0, 0⟩, ⟨13, 0, 0, 0⟩] (.slice none 0 0) [] → Calls Tryz.prog 48 #[.pointer (some ⟨b, 0, none⟩), vi 10, vi 0, vi 0, vi 0] W fun e w' => e = .returned (vi 2) ∧ WSv w' B b [⟨5, 0, 0, 0⟩, ⟨13, 0, 0, 0⟩, ⟨10, 0, 0, 0⟩] (.slice none 0 0) [] ∧ KpI [b] B W w') := Lib.hid fun W h1 h2 => wadd_v B b [⟨5, 0, 0, 0⟩, ⟨13, 0, 0, 0⟩] (.slice none 0 0) [] 10 0 0 0 (by decide) W h1 h2
  have HA4 : Hid (∀ W, B ≤ W.heap.size → WS W B b [⟨5, 0, 0, 0⟩, ⟨13, 0, 0, 0⟩, ⟨10, 0, 0, 0⟩] [(2, ⟨#[109, 97, 105, 110]⟩)] → Calls Tryz.prog 48 #[.pointer (some ⟨b, 0, none⟩), vi 12, vi 1, vi 0, vi 0] W fun e w' => e = .returned (vi 3) ∧ WS w' B b [⟨5, 0, 0, 0⟩, ⟨13, 0, 0, 0⟩, ⟨10, 0, 0, 0⟩, ⟨12, 1, 0, 0⟩] [(2, ⟨#[109, 97, 105, 110]⟩)] ∧ KpI [b] B W w') := Lib.hid fun W h1 h2 => wadd_any B b [⟨5, 0, 0, 0⟩, ⟨13, 0, 0, 0⟩, ⟨10, 0, 0, 0⟩] [(2, ⟨#[109, 97, 105, 110]⟩)] 12 1 0 0 (by decide) W h1 h2
  have HA5 : Hid (∀ W, B ≤ W.heap.size → WS W B b [⟨5, 0, 0, 0⟩, ⟨13, 0, 0, 0⟩, ⟨10, 0, 0, 0⟩, ⟨12, 1, 0, 0⟩] [(2, ⟨#[109, 97, 105, 110]⟩)] → Calls Tryz.prog 48 #[.pointer (some ⟨b, 0, none⟩), vi 0, vi 1, vi 0, vi 0] W fun e w' => e = .returned (vi 4) ∧ WS w' B b [⟨5, 0, 0, 0⟩, ⟨13, 0, 0, 0⟩, ⟨10, 0, 0, 0⟩, ⟨12, 1, 0, 0⟩, ⟨0, 1, 0, 0⟩] [(2, ⟨#[109, 97, 105, 110]⟩)] ∧ KpI [b] B W w') := Lib.hid fun W h1 h2 => wadd_any B b [⟨5, 0, 0, 0⟩, ⟨13, 0, 0, 0⟩, ⟨10, 0, 0, 0⟩, ⟨12, 1, 0, 0⟩] [(2, ⟨#[109, 97, 105, 110]⟩)] 0 1 0 0 (by decide) W h1 h2
  clear hq hg hc hFn hBd hc4 hbd hW1 hb1 k4 kb hS1 hcb hF
  go_enter Tryz.func17, Tryz.ntmps17
  go_upto_region 2 with (fail)
  rw [← HW1.out.1, ← HW1.out.2.2, ← HW1.out.2.1]
  go_wp2_with fail
  refine HAR.out.mono ?_
  rintro _ W2 ⟨rfl, hb2⟩
  have H2 := Lib.hid (And.intro (HB1.out.2.2.1.below hb2) (KpI.of_below (X := [b]) hb2 HB1.out.2.2.2.2.1))
  clear hb2
  go_wp2
  go_loopw [21] (fun i wr => (i = vi 0 ∧ W2 = wr) ∨ (i = vi 1 ∧ WSv wr B b [⟨5, 0, 0, 0⟩] (.slice none 0 0) [] ∧ KpI [b] B W1 wr)) (fun i _ => 1 - (intOf i).toNat)
  case atStart => exact .inl ⟨rfl, rfl⟩
  case round =>
    rename World => wr
    rcases hrel with ⟨rfl, rfl⟩ | ⟨rfl, hS, hK⟩
    · go_wp2_with fail
      refine (HA1.out W2 (HSZ.out _ H2.out.2) H2.out.1).mono ?_
      rintro _ W3 ⟨rfl, hS3, hK3⟩
      have H3 := Lib.hid (And.intro hS3 (H2.out.2.trans hK3))
      clear hS3 hK3
      go_wp2
      go_roundw
      case rel => exact .inr ⟨by first | rfl | go_num, H3.out⟩
      case measure => simp [intOf]
    · have H3 := Lib.hid (And.intro hS hK)
      obtain ⟨W3, hW3⟩ : ∃ W, W = wr := ⟨_, rfl⟩
      rw [← hW3] at H3
      rw [← hW3]
      clear hS hK hW3
      go_wp2
      go_loopw [29] (fun i wr => (i = vi 0 ∧ W3 = wr) ∨ (i = vi 1 ∧ WSv wr B b [⟨5, 0, 0, 0⟩, ⟨13, 0, 0, 0⟩] (.slice none 0 0) [] ∧ KpI [b] B W1 wr)) (fun i _ => 1 - (intOf i).toNat)
      case atStart => exact .inl ⟨rfl, rfl⟩
      case round =>
       rename World => wr
       rcases hrel with ⟨rfl, rfl⟩ | ⟨rfl, hS, hK⟩
       · go_wp2_with fail
         refine (HA2.out W3 (HSZ.out _ H3.out.2) H3.out.1).mono ?_
         rintro _ W4 ⟨rfl, hS4, hK4⟩
         have H4 := Lib.hid (And.intro hS4 (H3.out.2.trans hK4))
         clear hS4 hK4
         go_wp2
         go_roundw
         case rel => exact .inr ⟨by first | rfl | go_num, H4.out⟩
         case measure => simp [intOf]
       · have H4 := Lib.hid (And.intro hS hK)
         obtain ⟨W4, hW4⟩ : ∃ W, W = wr := ⟨_, rfl⟩
         rw [← hW4] at H4
         rw [← hW4]
         clear hS hK hW4
         go_upto_region 13 with (fail)
         refine wp_region_N (S := fun _ => True) (C := fun W => W.cell? ⟨b, 1, none⟩ = some (.slice none 0 0)) 12 (by kernel_rfl) ?_
         obtain ⟨W5, hW5⟩ : ∃ X, X = W4.drew := ⟨_, rfl⟩
         rw [← hW5]
         have H5 : Hid (WSv W5 B b [⟨5, 0, 0, 0⟩, ⟨13, 0, 0, 0⟩] (.slice none 0 0) [] ∧ KpI [b] B W1 W5) := Lib.hid ⟨by rw [hW5]; exact H4.out.1.drew, by rw [hW5]; exact H4.out.2.drew⟩
         have xs := True.intro
         have xc := H5.out.1.cell1
         clear hW5
         refine wpAnyN_takeS (i := 0) rfl rfl (by kernel_rfl) (by kernel_rfl) (by kernel_rfl) (fun _ _ _ h => h) (by decide) (Or.inl ⟨by rfl, by (intro w hSw; (try dsimp only at hSw); go_simp; try with_reducible rfl)⟩) (by assumption) (fun _ => by assumption) ?_
         (try simp only [Act.put, List.setIfInBounds_toArray, List.set_cons_zero, List.set_cons_succ])
         refine wpAnyN_takeS (i := 1) rfl rfl (by kernel_rfl) (by kernel_rfl) (by kernel_rfl) (fun _ _ _ h => h) (by decide) (Or.inl ⟨by rfl, by (intro w hSw; (try dsimp only at hSw); go_simp; try with_reducible rfl)⟩) (by assumption) (fun _ => by assumption) ?_
         (try simp only [Act.put, List.setIfInBounds_toArray, List.set_cons_zero, List.set_cons_succ])
         refine wpAnyN_takeS (i := 2) rfl rfl (by kernel_rfl) (by kernel_rfl) (by kernel_rfl) (fun _ _ _ h => h) (by decide) (Or.inl ⟨by rfl, by (intro w hSw; (try dsimp only at hSw); go_simp; try with_reducible rfl)⟩) (by assumption) (fun _ => by assumption) ?_
         (try simp only [Act.put, List.setIfInBounds_toArray, List.set_cons_zero, List.set_cons_succ])
         refine wpAnyN_takeS (i := 3) rfl rfl (by kernel_rfl) (by kernel_rfl) (by kernel_rfl) (fun _ _ _ h => h) (by decide) (Or.inl ⟨by rfl, by (intro w hSw; (try dsimp only at hSw); go_simp; try with_reducible rfl)⟩) (by assumption) (fun _ => by assumption) ?_
         (try simp only [Act.put, List.setIfInBounds_toArray, List.set_cons_zero, List.set_cons_succ])
         refine wpAnyN_take (i := 4) rfl rfl (by kernel_rfl) (by kernel_rfl) (by kernel_rfl) (fun _ _ _ h => h) (by decide) (by kernel_rfl) (by kernel_rfl) (Or.inl ⟨by rfl, by (intro w hSw; (try dsimp only at hSw); go_simp; try with_reducible rfl)⟩) (by assumption) (by assumption) ?_
         (try simp only [Act.put, List.setIfInBounds_toArray, List.set_cons_zero, List.set_cons_succ])
         refine wpAnyN_takeS (i := 5) rfl rfl (by kernel_rfl) (by kernel_rfl) (by kernel_rfl) (fun _ _ _ h => h) (by decide) (Or.inl ⟨by rfl, by (intro w hSw; (try dsimp only at hSw); go_simp; try with_reducible rfl)⟩) (by assumption) (fun _ => by assumption) ?_
         (try simp only [Act.put, List.setIfInBounds_toArray, List.set_cons_zero, List.set_cons_succ])
         refine wpAnyN_ready (rs := [6]) (by kernel_rfl) (by simp) (AllReadyN.cons rfl (fun K hK => ?_) AllReadyN.nil)
         go_simp
         refine (HA3.out W5 (HSZ.out _ H5.out.2) H5.out.1).mono ?_
         rintro _ W6 ⟨rfl, hS6, hK6⟩
         have H6 := Lib.hid (And.intro hS6 (H5.out.2.trans hK6))
         clear hS6 hK6 xc
         have xc := H6.out.1.cell1
         refine hK.out _ _ xs (fun _ => xc) ?_
         clear hK K
         (try simp only [Act.put, List.setIfInBounds_toArray, List.set_cons_zero, List.set_cons_succ])
         refine wpAnyN_takeS (i := 7) rfl rfl (by kernel_rfl) (by kernel_rfl) (by kernel_rfl) (fun _ _ _ h => h) (by decide) (Or.inl ⟨by rfl, by (intro w hSw; (try dsimp only at hSw); go_simp; try with_reducible rfl)⟩) (by assumption) (fun _ => by assumption) ?_
         (try simp only [Act.put, List.setIfInBounds_toArray, List.set_cons_zero, List.set_cons_succ])
         refine wpAnyN_ready (rs := [8]) (by kernel_rfl) (by simp) (AllReadyN.cons rfl (fun K hK => ?_) AllReadyN.nil)
         go_simp
         obtain ⟨g8, hg8⟩ : ∃ s, s = W6.heap.size := ⟨_, rfl⟩
         rw [← hg8]
         obtain ⟨W8, hW8⟩ : ∃ X, X = W6.alloc (.cells #[vi 2, .string ⟨#[109, 97, 105, 110]⟩] 112) := ⟨_, rfl⟩
         rw [← hW8]
         have hb68 : Below W6.heap.size W6 W8 := by rw [hW8]; exact (Below.refl _ _).alloc (Nat.le_refl _) _
         have hN8 : Blk W8 g8 112 #[vi 2, .string ⟨#[109, 97, 105, 110]⟩] := by rw [hW8, hg8]; exact Blk.new _ _ _
         have H8 := Lib.hid (And.intro (H6.out.1.below hb68) (And.intro (H6.out.2.trans (KpI.of_below (X := [b]) hb68 (HSZ.out _ H6.out.2))) hN8))
         clear hW8 hg8 hb68 hN8 xc
         have xc := H8.out.1.cell1
         refine hK.out _ _ xs (fun _ => xc) ?_
         clear hK K
         (try simp only [Act.put, List.setIfInBounds_toArray, List.set_cons_zero, List.set_cons_succ])
         refine wpAnyN_ready (rs := [9]) (by kernel_rfl) (by simp) (AllReadyN.cons rfl (fun K hK => ?_) AllReadyN.nil)
         refine step_appSG 107 112 _ 2 24 Tryz.underlying107 info_call (by rfl) (by omega) W8 g8 [vi 2, .string ⟨#[109, 97, 105, 110]⟩] (by rfl) (by simp [Value.oneCell']) (by rfl) _ _ (by rfl) B (.slice none 0 0) 0 [] (by rfl) (by rfl) (by
           intro j u hj
           rw [Blk.cell H8.out.2.2 j]
           simpa using hj) (World.ownsRow_nil _ _ _ _) (by simp [maxLen]) (by omega) (HSZ.out _ H8.out.2.1) ?_
         intro v W9 p1 p2 p3
         obtain ⟨A9, c9, rfl⟩ := row_form (show W9.ownsRow B 112 2 v 1 [vi 2, .string ⟨#[109, 97, 105, 110]⟩] from p1)
         have hb89 : Below W8.heap.size W8 W9 := ⟨p2.os, p2.tape, p2.output, p2.size, fun k hk => p2.block k hk (by simp [Value.ownBlock])⟩
         have H9 := Lib.hid (And.intro (H8.out.1.below hb89) (And.intro (H8.out.2.1.trans (KpI.of_below (X := [b]) hb89 (HSZ.out _ H8.out.2.1))) (show OwnL W9 B (.slice A9 1 c9) [(2, ⟨#[109, 97, 105, 110]⟩)] from p1)))
         clear p1 p2 p3 hb89 xc
         have xc := H9.out.1.cell1
         change K (Act.put _ (some 46) _) _
         refine hK.out _ _ xs (fun _ => xc) ?_
         clear hK K
         (try simp only [Act.put, List.setIfInBounds_toArray, List.set_cons_zero, List.set_cons_succ])
         refine wpAnyN_takeS (i := 10) rfl rfl (by kernel_rfl) (by kernel_rfl) (by kernel_rfl) (fun _ _ _ h => h) (by decide) (Or.inl ⟨by rfl, by (intro w hSw; (try dsimp only at hSw); go_simp; try with_reducible rfl)⟩) (by assumption) (fun _ => by assumption) ?_
         (try simp only [Act.put, List.setIfInBounds_toArray, List.set_cons_zero, List.set_cons_succ])
         refine wpAnyN_takeS (i := 11) rfl rfl (by kernel_rfl) (by kernel_rfl) (by kernel_rfl) (fun _ _ _ h => h) (by decide) (Or.inl ⟨by rfl, by (intro w hSw; (try dsimp only at hSw); go_simp; try with_reducible rfl)⟩) (by assumption) (fun _ => by assumption) ?_
         (try simp only [Act.put, List.setIfInBounds_toArray, List.set_cons_zero, List.set_cons_succ])
         obtain ⟨_, vL, hbl, _, _⟩ := H9.out.1
         have fq := hbl.frozen 1
         have yq := (hbl.cell 1).trans (show _ = some (.slice none 0 0) from rfl)
         refine wpAnyN_ready (rs := [12]) (by kernel_rfl) (by simp) (AllReadyN.cons rfl (fun K hK => ?_) AllReadyN.nil)
         go_simp
         obtain ⟨W10, hW10⟩ : ∃ X, X = W9.setCell ⟨b, 1, none⟩ (.slice A9 1 c9) := ⟨_, rfl⟩
         rw [← hW10]
         have H10 : Hid (WS W10 B b [⟨5, 0, 0, 0⟩, ⟨13, 0, 0, 0⟩, ⟨10, 0, 0, 0⟩] [(2, ⟨#[109, 97, 105, 110]⟩)] ∧ KpI [b] B W1 W10) := Lib.hid ⟨by rw [hW10]; exact H9.out.1.calls H9.out.2.2, by rw [hW10]; exact H9.out.2.1.setCell (by simp) HB1.out.2.2.2.2.2.2 _⟩
         clear hW10 hbl fq yq xc
         refine hK.out _ _ xs (fun h => absurd h (by decide)) ?_
         clear hK K
         (try simp only [Act.put, List.setIfInBounds_toArray, List.set_cons_zero, List.set_cons_succ])
         refine wpAnyN_done (by kernel_rfl) ?_ _
         clear xs
         go_wp2_with fail
         refine (HA4.out W10 (HSZ.out _ H10.out.2) H10.out.1).mono ?_
         rintro _ W11 ⟨rfl, hS11, hK11⟩
         have H11 := Lib.hid (And.intro hS11 (H10.out.2.trans hK11))
         clear hS11 hK11
         go_wp2_with fail
         refine (HA5.out W11 (HSZ.out _ H11.out.2) H11.out.1).mono ?_
         rintro _ W12 ⟨rfl, hS12, hK12⟩
         have H12 := Lib.hid (And.intro hS12 (H11.out.2.trans hK12))
         clear hS12 hK12
         have hmm := @run_makeMap Tryz.prog
         go_upto_region 17 with (fail)
         obtain ⟨m1, hm1⟩ : ∃ m, m = W12.heap.size := ⟨_, rfl⟩
         obtain ⟨m2, hm2⟩ : ∃ m, m = W12.heap.size + 1 := ⟨_, rfl⟩
         obtain ⟨W13, hW13⟩ : ∃ X, X = (W12.alloc (.map #[] 0)).alloc (.map #[] 0) := ⟨_, rfl⟩
         rw [← hW13, ← hm2, ← hm1]
         have hb13 : Below W12.heap.size W12 W13 := by rw [hW13]; exact ((Below.refl _ _).alloc (Nat.le_refl _) _).alloc (by simp) _
         have hM1 : MapS W13 m1 0 (fun _ => 0) := by rw [hW13, hm1]; exact (MapS.made W12).block (Below.heap_alloc _ _ _ (by simp))
         have hM2 : MapS W13 m2 0 (fun _ => 0) := by
           have hh := MapS.made (W12.alloc (.map #[] 0))
           rw [show (W12.alloc (.map #[] 0)).heap.size = m2 by rw [hm2]; simp] at hh
           rw [hW13]
           exact hh
         have H13 := Lib.hid (And.intro (H12.out.1.below hb13) (And.intro (H12.out.2.trans (KpI.of_below (X := [b]) hb13 (HSZ.out _ H12.out.2))) (And.intro hM1 (And.intro hM2 (And.intro (show m1 ≠ m2 by omega) (show (B ≤ m1 ∧ B ≤ m2) ∧ W1.heap.size ≤ m1 ∧ W1.heap.size ≤ m2 by have := HSZ.out _ H12.out.2; have := H12.out.2.below.size; omega))))))
         clear hm1 hm2 hW13 hb13 hM1 hM2 hmm
         go_wp2_with fail
         refine (HAL.out W13 (HBW.out _ H13.out.2.1)).mono ?_
         rintro _ W14 ⟨ga, ca, rfl, hc14, hb14⟩
         have H14 := Lib.hid (And.intro (H13.out.1.below hb14) (And.intro (H13.out.2.1.trans (KpI.of_below (X := [b]) hb14 (HSZ.out _ H13.out.2.1))) (And.intro (H13.out.2.2.1.below hb14) (H13.out.2.2.2.1.below hb14))))
         clear hb14
         go_wp2
         go_loopw [60] (fun i wr => (i = vi 0 ∧ W14 = wr) ∨ (i = vi 1 ∧ WS wr B b codeL0 [(2, ⟨#[109, 97, 105, 110]⟩)] ∧ KpI [b] B W1 wr ∧ MapS wr m1 1 (putS (fun _ => 0) [109, 97, 105, 110] 5) ∧ MapS wr m2 1 (putS (fun _ => 0) [109, 97, 105, 110] 5))) (fun i _ => 1 - (intOf i).toNat)
         case atStart => exact .inl ⟨rfl, rfl⟩
         case round =>
          rename World => wr
          rcases hrel with ⟨rfl, rfl⟩ | ⟨rfl, hS, hK, hMa, hMb⟩
          · obtain ⟨b0, vL, vC, hbl, hOL, hOC⟩ := H14.out.1
            obtain ⟨g5, c5, rfl, hg5, hc5, _⟩ := rowLw_some (show W14.ownsRow B 121 4 vL 5 _ from hOL) (by omega)
            have KB : Hid (∀ W, KpI [b] B W1 W → Blk W b 109 #[.slice (some ⟨g5, 0, none⟩) 5 c5, vC] → W.cell? ⟨fn, 0, none⟩ = some (.string ⟨#[109, 97, 105, 110]⟩) ∧ W.cell? ⟨b, 0, none⟩ = some (.slice (some ⟨g5, 0, none⟩) 5 c5)) := Lib.hid fun W hW hB => ⟨HFN.out W (HBW.out W hW), (hB.cell 0).trans rfl⟩
            have HBL := Lib.hid hbl
            clear hbl hOL hOC b0 hg5 hc5
            go_upto_region 20 with (fail)
            refine wp_region_held_drew (S := fun W => W.cell? ⟨fn, 0, none⟩ = some (.string ⟨#[109, 97, 105, 110]⟩) ∧ W.cell? ⟨b, 0, none⟩ = some (.slice (some ⟨g5, 0, none⟩) 5 c5)) (by kernel_rfl) (KB.out _ H14.out.2.1.drew HBL.out.drew) (fun hHeld => ?_)
            clear hc14
            refine tkH 0 ?_
            refine tkH 1 ?_
            refine tkH 2 ?_
            refine tkH 3 ?_
            refine tkH 4 ?_
            refine tkH 5 ?_
            refine tkH 6 ?_
            refine tkH 7 ?_
            refine tkH 8 ?_
            refine tkH 9 ?_
            obtain ⟨W15, hins, hM15, hg15⟩ := MapS.upd (w := W14.drew) H14.out.2.2.1 (by simp [maxLen]) ⟨#[109, 97, 105, 110]⟩ (by decide) (v := 5) (by constructor <;> omega)
            have hK15 : KpI [b] B W1 W15 := (H14.out.2.1.drew).grown hg15 HB1.out.2.2.2.2.1 (fun k hk => by
              injection hk with hk
              rw [← hk]
              exact ⟨H13.out.2.2.2.2.2.1.1, .inr H13.out.2.2.2.2.2.2.1⟩)
            have hnb : ∀ g t cs, Blk W14.drew g t cs → W15.heap[g]? = W14.drew.heap[g]? := fun g t cs hB => hg15.block g hB.lt (fun e => by
              injection e with e
              exact H14.out.2.2.1.not (t := t) (cs := cs) (by rw [← e]; exact hB))
            have hb15 := (hnb _ _ _ HBL.out.drew).trans HBL.out.drew
            have hM215 : MapS W15 m2 0 (fun _ => 0) := H14.out.2.2.2.block (hg15.block m2 H14.out.2.2.2.lt (fun e => by injection e with e; exact H13.out.2.2.2.2.1 e.symm))
            have H15 := Lib.hid (And.intro ((H14.out.1.drewN 1).keepQ fun g t cs hB _ => hnb g t cs hB) (And.intro hK15 (And.intro hM15 (And.intro hM215 hb15))))
            clear hM15 hg15 hK15 hnb hb15 hM215
            refine stH 10 (fun K hK => ?_)
            go_simp
            refine hK.out _ _ (KB.out _ H15.out.2.1 H15.out.2.2.2.2) (fun hHeld => ?_)
            clear hK K
            (try simp only [Act.put, List.setIfInBounds_toArray, List.set_cons_zero, List.set_cons_succ])
            refine wpAnyH_done (by kernel_rfl) ?_ _
            clear hins KB HBL
            go_upto_region 21 with (fail)
            have KF : Hid (∀ W, KpI [b] B W1 W → W.cell? ⟨fn, 0, none⟩ = some (.string ⟨#[109, 97, 105, 110]⟩)) := Lib.hid fun W hW => HFN.out W (HBW.out W hW)
            refine wp_region_held_drew (S := fun W => W.cell? ⟨fn, 0, none⟩ = some (.string ⟨#[109, 97, 105, 110]⟩)) (by kernel_rfl) (KF.out _ H15.out.2.1.drew) (fun hHeld => ?_)
            refine tkH 0 ?_
            refine tkH 1 ?_
            refine tkH 2 ?_
            refine tkH 3 ?_
            refine tkH 4 ?_
            refine tkH 5 ?_
            refine tkH 6 ?_
            refine stH 7 (fun K hK => ?_)
            go_simp
            refine (HBO.out W15.drew (HBW.out _ H15.out.2.1.drew) (H15.out.1.drewN 1)).mono ?_
            rintro _ W16 ⟨rfl, hS16, hK16⟩
            have hX : ∀ x ∈ [b], ∃ t cs, Blk W15.drew x t cs := by simp; exact H15.out.1.blkb
            have H16 := Lib.hid (And.intro hS16 (And.intro (H15.out.2.1.drew.trans hK16) (And.intro (MapS.kpi (w := W15.drew) H15.out.2.2.1 hK16 hX) (MapS.kpi (w := W15.drew) H15.out.2.2.2.1 hK16 hX))))
            clear hS16 hK16 hX
            refine hK.out _ _ (KF.out _ H16.out.2.1) (fun hHeld => ?_)
            clear hK K
            (try simp only [Act.put, List.setIfInBounds_toArray, List.set_cons_zero, List.set_cons_succ])
            obtain ⟨W17, hins, hM17, hg17⟩ := MapS.upd H16.out.2.2.2 (by simp [maxLen]) ⟨#[109, 97, 105, 110]⟩ (by decide) (v := 5) (by constructor <;> omega)
            have hK17 : KpI [b] B W1 W17 := H16.out.2.1.grown hg17 HB1.out.2.2.2.2.1 (fun k hk => by
              injection hk with hk
              rw [← hk]
              exact ⟨H13.out.2.2.2.2.2.1.2, .inr H13.out.2.2.2.2.2.2.2⟩)
            have hnb : ∀ g t cs, Blk W16 g t cs → W17.heap[g]? = W16.heap[g]? := fun g t cs hB => hg17.block g hB.lt (fun e => by
              injection e with e
              exact H16.out.2.2.2.not (t := t) (cs := cs) (by rw [← e]; exact hB))
            have hM117 : MapS W17 m1 1 (putS (fun _ => 0) [109, 97, 105, 110] 5) := H16.out.2.2.1.block (hg17.block m1 H16.out.2.2.1.lt (fun e => by injection e with e; exact H13.out.2.2.2.2.1 e))
            have H17 : Hid (WS W17 B b codeL0 [(2, ⟨#[109, 97, 105, 110]⟩)] ∧ KpI [b] B W1 W17 ∧ MapS W17 m1 1 (putS (fun _ => 0) [109, 97, 105, 110] 5) ∧ MapS W17 m2 1 (putS (fun _ => 0) [109, 97, 105, 110] 5)) := Lib.hid ⟨H16.out.1.keepQ fun g t cs hB _ => hnb g t cs hB, hK17, hM117, hM17⟩
            clear hM17 hg17 hK17 hnb hM117
            refine stH 8 (fun K hK => ?_)
            go_simp
            refine hK.out _ _ (KF.out _ H17.out.2.1) (fun hHeld => ?_)
            clear hK K
            (try simp only [Act.put, List.setIfInBounds_toArray, List.set_cons_zero, List.set_cons_succ])
            refine wpAnyH_done (by kernel_rfl) ?_ _
            clear hins
            go_wp2
            go_roundw
            case rel => exact .inr ⟨by first | rfl | go_num, H17.out⟩
            case measure => simp [intOf]
          · have H17 := Lib.hid (And.intro hS (And.intro hK (And.intro hMa hMb)))
            obtain ⟨W17, hW17⟩ : ∃ W, W = wr := ⟨_, rfl⟩
            rw [← hW17] at H17
            rw [← hW17]
            clear hS hK hMa hMb hW17 hc14
            obtain ⟨b0, vL, vC, hbl, hOL, hOC⟩ := H17.out.1
            obtain ⟨gI, cI, rfl, hgI, hcI, _⟩ := rowLw_some (show W17.ownsRow B 121 4 vL 9 (codeL0.flatMap encI) from hOL) (by omega)
            obtain ⟨gC, cC, rfl, hgC, hcC, _⟩ := rowLw_some (show W17.ownsRow B 112 2 vC 1 [vi 2, .string ⟨#[109, 97, 105, 110]⟩] from hOC) (by omega)
            have y1 := (hbl.cell 1).trans (show _ = some (.slice (some ⟨gC, 0, none⟩) 1 cC) from rfl)
            have q0 : W17.cell? ⟨gC, 0, none⟩ = some (vi 2) := (World.ownsRow.cellAt (show W17.ownsRow B 112 2 (.slice (some ⟨gC, 0, none⟩) 1 cC) 1 [vi 2, .string ⟨#[109, 97, 105, 110]⟩] from hOC) 0 (by omega)).trans rfl
            have q1 : W17.cell? ⟨gC, 1, none⟩ = some (.string ⟨#[109, 97, 105, 110]⟩) := (World.ownsRow.cellAt (show W17.ownsRow B 112 2 (.slice (some ⟨gC, 0, none⟩) 1 cC) 1 [vi 2, .string ⟨#[109, 97, 105, 110]⟩] from hOC) 1 (by omega)).trans rfl
            obtain ⟨c15, hc15⟩ : ∃ c, c = W17.heap.size := ⟨_, rfl⟩
            obtain ⟨W18, hW18⟩ : ∃ X, X = W17.alloc (.cells #[vi 2, .string ⟨#[109, 97, 105, 110]⟩] 112) := ⟨_, rfl⟩
            have hb18 : Below W17.heap.size W17 W18 := by rw [hW18]; exact (Below.refl _ _).alloc (Nat.le_refl _) _
            have hT18 : StC W1 B b gI cI (.slice (some ⟨gC, 0, none⟩) 1 cC) c15 m1 m2 W18 (codeL0.flatMap encI) := ⟨hbl.below hb18 hbl.lt, by rw [hW18, hc15]; exact Blk.new _ _ _, H17.out.2.2.1.below hb18, H17.out.2.2.2.below hb18, rowLw_keep (show W17.ownsRow B 121 4 (.slice (some ⟨gI, 0, none⟩) 9 cI) 9 (codeL0.flatMap encI) from hOL) (fun g hg => hb18.block g (World.ownsRow.lt hOL g hg).2), H17.out.2.1.trans (KpI.of_below (X := [b]) hb18 (HSZ.out _ H17.out.2.1))⟩
            have H18 := Lib.hid (And.intro hT18 (And.intro hW18 hc15))
            have HCI := Lib.hid hcI
            clear hbl hOL hOC hgI hgC hcC hc15 hW18 hb18 hT18 b0 hcI
            go_wp2
            go_loopw [88] (fun i wr => (i = vi 0 ∧ W17 = wr) ∨ (i = vi 1 ∧ StC W1 B b gI cI (.slice (some ⟨gC, 0, none⟩) 1 cC) c15 m1 m2 wr (codeL.flatMap encI))) (fun i _ => 1 - (intOf i).toNat)
            case atStart => exact .inl ⟨rfl, rfl⟩
            case round =>
             rename World => wr
             rcases hrel with ⟨rfl, rfl⟩ | ⟨rfl, hT⟩
             · go_upto_region 26 with (fail)
               rw [← H18.out.2.1, ← H18.out.2.2]
               refine wp_region_held_drew (S := (fun W => W.cell? ⟨b, 0, none⟩ = some (.slice (some ⟨gI, 0, none⟩) 9 cI) ∧ W.cell? ⟨c15, 0, none⟩ = some (vi 2) ∧ W.cell? ⟨c15, 1, none⟩ = some (.string ⟨#[109, 97, 105, 110]⟩) ∧ (Instr.lookup 113 (.map (some m1)) (.string ⟨#[109, 97, 105, 110]⟩) false).run Tryz.prog W = .ok (vi 5) W ∧ (Instr.lookup 113 (.map (some m2)) (.string ⟨#[109, 97, 105, 110]⟩) false).run Tryz.prog W = .ok (vi 5) W)) (by kernel_rfl) (H18.out.1.drew.rd) (fun hHeld => ?_)
               clear y1 q0 q1
               obtain ⟨Wd, hWd⟩ : ∃ X, X = W18.drew := ⟨_, rfl⟩
               rw [← hWd] at hHeld ⊢
               have HD : Hid (StC W1 B b gI cI (.slice (some ⟨gC, 0, none⟩) 1 cC) c15 m1 m2 Wd (codeL0.flatMap encI)) := Lib.hid (by rw [hWd]; exact H18.out.1.drew)
               clear hWd
               refine tkH 0 ?_
               refine tkH 1 ?_
               refine tkH 2 ?_
               refine tkH 3 ?_
               refine tkH 4 ?_
               refine tkH 5 ?_
               refine tkH 6 ?_
               refine tkH 7 ?_
               refine tkH 8 ?_
               refine tkH 9 ?_
               refine tkH 10 ?_
               refine tkH 11 ?_
               refine tkH 12 ?_
               refine tkH 13 ?_
               refine tkH 14 ?_
               refine tkH 15 ?_
               refine tkH 16 ?_
               refine tkH 17 ?_
               refine tkH 18 ?_
               refine tkH 19 ?_
               refine tkH 20 ?_
               refine tkH 21 ?_
               have y9 := (World.ownsRow.cellAt HD.out.own 9 (by omega)).trans (show _ = some (vi 0) from rfl)
               have f9 := World.ownsRow.frozenAt HD.out.own 9
               refine stH 22 (fun K hK => ?_)
               go_simp
               obtain ⟨W19, hW19⟩ : ∃ X, X = Wd.setCell ⟨gI, 9, none⟩ (vi 5) := ⟨_, rfl⟩
               rw [← hW19]
               have H19 : Hid (StC W1 B b gI cI (.slice (some ⟨gC, 0, none⟩) 1 cC) c15 m1 m2 W19 ((codeL0.flatMap encI).set 9 (vi 5))) := Lib.hid (by rw [hW19]; exact HD.out.set_ 9 _)
               clear hW19 y9 f9
               refine hK.out _ _ H19.out.rd (fun hHeld => ?_)
               clear hK K
               (try simp only [Act.put, List.setIfInBounds_toArray, List.set_cons_zero, List.set_cons_succ])
               refine tkH 23 ?_
               refine tkH 24 ?_
               have y9 := (World.ownsRow.cellAt H19.out.own 10 (by omega)).trans (show _ = some (vi 0) from rfl)
               have f9 := World.ownsRow.frozenAt H19.out.own 10
               refine stH 25 (fun K hK => ?_)
               go_simp
               obtain ⟨W20, hW20⟩ : ∃ X, X = W19.setCell ⟨gI, 10, none⟩ (vi 5) := ⟨_, rfl⟩
               rw [← hW20]
               have H20 : Hid (StC W1 B b gI cI (.slice (some ⟨gC, 0, none⟩) 1 cC) c15 m1 m2 W20 (codeL.flatMap encI)) := Lib.hid (by rw [hW20]; exact H19.out.set_ 10 _)
               clear hW20 y9 f9
               refine hK.out _ _ H20.out.rd (fun hHeld => ?_)
               clear hK K
               (try simp only [Act.put, List.setIfInBounds_toArray, List.set_cons_zero, List.set_cons_succ])
               refine wpAnyH_done (by kernel_rfl) ?_ _
               go_wp2
               go_roundw
               case rel => exact .inr ⟨by first | rfl | go_num, H20.out⟩
               case measure => simp [intOf]
             · have H20 := Lib.hid hT
               obtain ⟨W20, hW20⟩ : ∃ W, W = wr := ⟨_, rfl⟩
               rw [← hW20] at H20
               rw [← hW20]
               clear hT hW20 y1 q0 q1
               have z0 := (H20.out.bl.cell 0).trans (show _ = some (.slice (some ⟨gI, 0, none⟩) 9 cI) from rfl)
               have tp : decide ((p : Int) < 9) = false := decide_eq_false (by omega)
               go_upto_region 28 with (fail)
               go_quiet ((go_at_call 24; exact quiet_eq (HP.out _ (HBW.out _ (H20.out.kp.drewN _)))))
               clear tp
               go_upto_region 30 with (fail)
               go_wp2_with fail
               refine (clipI_any (some ⟨gI, 0, none⟩) 9 cI HCI.out _ (fun e => by cases e)).mono ?_
               rintro _ W21 ⟨rfl, hWW⟩
               have hB4 : Blk W21 c4 24 #[vi 0, .slice none 0 0] := by rw [← hWW]; exact (H20.out.kp.blk HB1.out.2.1 (by simp; exact HB1.out.2.2.2.1) (by decide)).drewN _
               have hO21 : W21.ownsRow B 121 4 (.slice (some ⟨gI, 0, none⟩) 9 cI) 9 (codeL.flatMap encI) := by rw [← hWW]; exact H20.out.own
               have hb21 : Below w.heap.size w W21 := by rw [← hWW]; exact HBW.out _ (H20.out.kp.drewN _)
               have v0 := (hB4.cell 0).trans (show _ = some (vi 0) from rfl)
               have v1 := (hB4.cell 1).trans (show _ = some (.slice none 0 0) from rfl)
               have u0 := hB4.frozen 0
               have u1 := hB4.frozen 1
               have H21 := Lib.hid (And.intro hB4 (And.intro hO21 hb21))
               clear hB4 hO21 hb21 z0 hWW
               go_wp2
               obtain ⟨W22, hW22⟩ : ∃ X, X = (W21.setCell ⟨c4, 0, none⟩ (vi 2)).setCell ⟨c4, 1, none⟩ (.slice (some ⟨gI, 0, none⟩) 9 9) := ⟨_, rfl⟩
               rw [← hW22]
               have hB22 : Blk W22 c4 24 #[vi 2, .slice (some ⟨gI, 0, none⟩) 9 9] := by rw [hW22]; exact (H21.out.1.set_ 0 _).set_ 1 _
               have hwc : w.heap.size ≤ c4 := by have := HW1.out.2.1; omega
               have hb22 : Below w.heap.size w W22 := by rw [hW22]; exact (H21.out.2.2.setCell hwc _).setCell hwc _
               have hO22 : W22.ownsRow B 121 4 (.slice (some ⟨gI, 0, none⟩) 9 cI) 9 (codeL.flatMap encI) := by
                 rw [hW22]
                 refine rowLw_keep H21.out.2.1 fun g hg => ?_
                 obtain ⟨cs, hcs⟩ := rowLw_blk H21.out.2.1 hg
                 have hne := Blk.ne_ hcs H21.out.1 (by decide)
                 exact (Below.heap_setCell _ ⟨c4, 1, none⟩ _ g hne).trans (Below.heap_setCell _ ⟨c4, 0, none⟩ _ g hne)
               have r0 := (hB22.cell 0).trans (show _ = some (vi 2) from rfl)
               have r1 := (hB22.cell 1).trans (show _ = some (.slice (some ⟨gI, 0, none⟩) 9 9) from rfl)
               refine bodyPost_ret (v := .tuple #[.agg #[vi 2, .slice (some ⟨gI, 0, none⟩) 9 9], .nilIface]) (by simp [results, Tryz.results17, go_sem, r0, r1]) rfl ⟨gI, rfl, Reads.of_own hO22, hb22⟩
end Go.Proofs.YtpkhcncempoohaaGreatDoor
