/- sponge.list: what is made of the state that a list is. -/
import Derived.Test.YtabhndfdioimcaaMx
import Derived.Test.YtabhndfdioimcaaEach
set_option linter.unusedVariables false
namespace Go.Proofs.Ytabhndfdioimcaa
open Go.RowKit Zp

theorem sl_of_blk {w : World} {g : Nat} {t : TypeId} {R : Nat → Int} (h : Blk w g t (st R)) : SL w (some ⟨g, 0, none⟩) ((List.range 8).map R) := ⟨by simp, fun _ => ⟨_, rfl, h.lt, fun j u hu => by
  have hj : j < 8 := by
    have := (List.getElem?_eq_some_iff.1 hu).1
    simpa using this
  have e : w.cell? (Addr.add ⟨g, 0, none⟩ j) = w.cell? ⟨g, j, none⟩ := by rw [Addr.add_mid, Nat.zero_add]
  rw [e, h.at8 hj]
  simp [hj] at hu
  rw [← hu]⟩⟩
theorem sl8 {w : World} {A : Option Addr} {xs : List Int} (h : SL w A xs) (h8 : xs.length = 8) : ∃ ad, A = some ad ∧ ad.block < w.heap.size ∧ ∀ i, i < 8 → w.cell? (ad.add i) = some (vi (xs.getD i 0)) := by
  obtain ⟨ad, e, hb, hc⟩ := h.2 (by omega)
  refine ⟨ad, e, hb, fun i hi => hc i _ ?_⟩
  have hi' : i < xs.length := by omega
  simp [List.getD, hi']
theorem i64_getD3 {xs : List Int} (h : ∀ x ∈ xs, I64 x) (i : Nat) : I64 (xs.getD i 0) := by
  rcases Nat.lt_or_ge i xs.length with hi | hi
  · simp only [List.getD, List.getElem?_eq_getElem hi, Option.getD_some]
    exact h _ (List.getElem_mem hi)
  · simp only [List.getD, List.getElem?_eq_none hi, Option.getD_none]
    constructor <;> omega
section
variable {p : Nat} [NeZero p]
theorem getD_map8 (R : Nat → Int) {i : Nat} (hi : i < 8) : (((List.range 8).map R).getD i 0) = R i := by simp [List.getD, hi]
theorem all8 {xs : List Int} (h8 : xs.length = 8) {R : Nat → Fin p} (h : ∀ j, j < 8 → R j = el p (xs.getD j 0)) : (List.range 8).map (fun i => fv (R i)) = fvs (els p xs) := by
  apply List.ext_getElem?
  intro i
  by_cases hi : i < 8
  · have hi' : i < xs.length := by omega
    simp [fvs, els, hi, hi', h i hi, List.getD]
  · have hi' : ¬ i < xs.length := by omega
    rw [List.getElem?_eq_none (by simp; omega), List.getElem?_eq_none (by simp [fvs, els]; omega)]
end
theorem i64_map8 {p : Nat} (hm : p ≤ 2147483647) (R : Nat → Fin p) (i : Nat) : I64 (((List.range 8).map fun i => fv (R i)).getD i 0) :=
  i64_getD3 (fun x hx => by obtain ⟨i, _, rfl⟩ := List.mem_map.1 hx; exact i64_fv _ hm) i
set_option maxRecDepth 100000 in
set_option maxHeartbeats 2000000 in
theorem list_not (A : Option Addr) (m c : Nat) (f : Value) (hm : m ≠ 8) (w : World) (h63 : m ≤ 9223372036854775807) :
    Calls Try.prog 31 #[.slice A m c, f] w fun e w' => e = .returned (.slice none 0 0) ∧ w = w' := by
  have t1 : ((m : Int) != 8) = true := by rw [bne_iff_ne]; omega
  clear hm
  go_enter Try.func31, Try.ntmps31
  go_wp2
  go_ret
  exact ⟨rfl, rfl⟩
set_option maxRecDepth 100000 in
set_option maxHeartbeats 2000000 in
theorem list_any (ad : Addr) (c : Nat) (x R : Nat → Int) (K : Nat) (hK : ∀ (args : Array Value) (w : World), (callFunc K args).run Try.prog w = .ok (.enter K args) w) (bnd cap : Array Value) (w : World) (hs : ∀ i, i < 8 → w.cell? (ad.add i) = some (vi (x i)))
    (hf : Calls Try.prog K (bnd ++ #[.agg (st x)] ++ cap) w fun e w' => e = .returned (.agg (st R)) ∧ Below w.heap.size w w') :
    Calls Try.prog 31 #[.slice (some ad) 8 c, .func (.func K) bnd cap] w fun e w' => Made ((List.range 8).map R) w e w' := by
  have x0 : w.cell? ad = some (vi (x 0)) := by have := hs 0 (by omega); simpa [Addr.add] using this
  have x1 : w.cell? ⟨ad.block, ad.off + 1, none⟩ = some (vi (x 1)) := by have := hs 1 (by omega); simpa [Addr.add] using this
  have x2 : w.cell? ⟨ad.block, ad.off + 2, none⟩ = some (vi (x 2)) := by have := hs 2 (by omega); simpa [Addr.add] using this
  have x3 : w.cell? ⟨ad.block, ad.off + 3, none⟩ = some (vi (x 3)) := by have := hs 3 (by omega); simpa [Addr.add] using this
  have x4 : w.cell? ⟨ad.block, ad.off + 4, none⟩ = some (vi (x 4)) := by have := hs 4 (by omega); simpa [Addr.add] using this
  have x5 : w.cell? ⟨ad.block, ad.off + 5, none⟩ = some (vi (x 5)) := by have := hs 5 (by omega); simpa [Addr.add] using this
  have x6 : w.cell? ⟨ad.block, ad.off + 6, none⟩ = some (vi (x 6)) := by have := hs 6 (by omega); simpa [Addr.add] using this
  have x7 : w.cell? ⟨ad.block, ad.off + 7, none⟩ = some (vi (x 7)) := by have := hs 7 (by omega); simpa [Addr.add] using this
  rw [st_lit] at hf
  have HF := Lib.hid hf
  clear hf hs
  have harr : ∀ W : World, (Instr.arrayAt 59 (.slice (some ad) 8 c)).run Try.prog W = .ok (.pointer (some ad)) W := fun W => by
    simp [Instr.arrayAt, run_underlying (P := Try.prog) Try.underlying59]
  go_enter Try.func31, Try.ntmps31
  go_wp2_with (first | (refine (HF.out).mono ?_; rintro _ w3 ⟨rfl, hb3⟩; have HB3 := Lib.hid hb3; clear hb3) | (refine wpList_store_row rfl 59 _ _ rfl w3.heap.size _ rfl rfl _ _ (Blk.new w3 _ _) (info8 _) (by rw [st_size]; rfl) (st_one _) ?_) | (go_at_call 41; refine (clone_any (some ⟨w3.heap.size, 0, none⟩) 8 8 ((List.range 8).map R) (by simp) (by omega) _ (sl_of_blk (setRow_heap _ _ _ _ _ _ (Blk.new w3 _ _)))).mono ?_; rintro _ w4 ⟨v, rfl, ho, hb4⟩))
  go_ret
  have hBN := below_setRow8 (HB3.out.alloc HB3.out.size (.cells (st fun _ => 0) 59)) HB3.out.size (st R)
  exact ⟨v, rfl, ho.more hBN.size, hBN.trans (hb4.mono hBN.size)⟩
set_option maxRecDepth 100000 in
set_option maxHeartbeats 2000000 in
theorem mix_not (A : Option Addr) (m c s : Nat) (hm : m ≠ 8) (w : World) (h63 : m ≤ 9223372036854775807) :
    Calls Try.prog 9 #[.pointer (some ⟨s, 0, none⟩), .slice A m c] w fun e w' => e = .returned (.slice none 0 0) ∧ Below w.heap.size w w' := by
  have HM := Lib.hid hm
  clear hm
  have hb1 : Below w.heap.size w (w.alloc (.cells #[.pointer (some ⟨s, 0, none⟩)] 24)) := (Below.refl _ _).alloc (Nat.le_refl _) _
  go_enter Try.func9, Try.ntmps9
  go_wp2_with (go_at_call 31; refine (list_not A m c _ HM.out _ h63).mono ?_; rintro _ _ ⟨rfl, rfl⟩)
  go_ret
  exact ⟨rfl, hb1⟩
set_option maxRecDepth 100000 in
set_option maxHeartbeats 2000000 in
theorem mix_any (p S b s k z : Nat) [NeZero p] (oo : Nat → Nat → Fin p) (ad : Addr) (c : Nat) (x : Nat → Int) (hx : ∀ i, I64 (x i)) (w : World) (F : Fld w S b p) (G : Spg w s b k z oo) (hl : ad.block < w.heap.size) (hs : ∀ i, i < 8 → w.cell? (ad.add i) = some (vi (x i))) :
    Calls Try.prog 9 #[.pointer (some ⟨s, 0, none⟩), .slice (some ad) 8 c] w fun e w' => Made ((List.range 8).map fun i => fv (ap (cauchy p) (fun j => el p (x j)) i)) w e w' := by
  have hsl := block_lt_of_cell G.c0
  have hK := callFunc_enters Try.func32 (by kernel_rfl) (by kernel_rfl)
  have hb1 : Below w.heap.size w (w.alloc (.cells #[.pointer (some ⟨s, 0, none⟩)] 24)) := (Below.refl _ _).alloc (Nat.le_refl _) _
  have hg : (w.alloc (.cells #[.pointer (some ⟨s, 0, none⟩)] 24)).cell? ⟨w.heap.size, 0, none⟩ = some (.pointer (some ⟨s, 0, none⟩)) := by rw [(Blk.new w _ _).cell]; rfl
  have hm1 := mix1_any p S b s k z w.heap.size oo x hx _ (F.below hb1 F.le) (G.below hb1 hsl) hg
  have hl1 := list_any ad c x _ 32 hK #[] #[.pointer (some ⟨w.heap.size, 0, none⟩)] _ (fun i hi => (hb1.cell (p := ad.add i) (by unfold Addr.add; split <;> exact hl)).trans (hs i hi)) hm1
  have HL := Lib.hid hl1
  have HB := Lib.hid hb1
  clear hm1 hl1 hK hg hb1
  go_enter Try.func9, Try.ntmps9
  go_wp2_with (go_at_call 31; refine (HL.out).mono ?_; rintro _ w4 ⟨v, rfl, ho, hb4⟩)
  go_ret
  exact ⟨v, rfl, ho.more HB.out.size, HB.out.trans (hb4.mono HB.out.size)⟩
end Go.Proofs.Ytabhndfdioimcaa
