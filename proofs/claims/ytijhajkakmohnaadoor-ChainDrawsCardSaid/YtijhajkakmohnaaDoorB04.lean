/- A bundle of texts: Cc, Ch, Rch, Ro, Qd, Vals, Lv2, Md, Rp, Code, Coef, Arg, LawG3, Dn, Spo, Sk. -/
import Derived.Test.YtijhajkakmohnaaDoorB02
import Derived.Test.YtijhajkakmohnaaDoorB03
import Derived.Lib.AppendZeros
import Derived.Deep.RegionHeld3
import Derived.BigQuiet
import Derived.Deep.DeepCutAuto
import Derived.Test.YtijhajkakmohnaaDoorB00
import Derived.Test.YtijhajkakmohnaaDoorB01
import Derived.RegionTactic
import Derived.ChangeAlike
import Derived.ChangeSlices
/- slices.Grow of nil; slices.Concat of slices of ints. -/
set_option linter.unusedVariables false
namespace Go.Proofs.YtijhajkakmohnaaDoor
open Go.RowKit

set_option maxRecDepth 100000 in
set_option maxHeartbeats 2000000 in
theorem grow_nil (n : Nat) (hn : n * 8 ≤ 140737488355328) (w : World) :
    Calls Tryd.prog 47 #[.slice none 0 0, vi n] w fun e w' => Made [] w e w' := by
  rcases Nat.eq_zero_or_pos n with h0 | h0
  · subst h0
    go_enter Tryd.func47, Tryd.ntmps47
    go_wp2
    go_ret
    exact ⟨_, rfl, World.ownsRow_nil _ _ _ _, Below.refl _ _⟩
  · obtain ⟨i0, hi, hz0, hz1, hz2⟩ := info_parts info_int
    have hr := Lib.run_append_nil_zeros (P := Tryd.prog) w 22 3 22 3 i0 (.int .i64 0) .i64 .i64 Tryd.underlying22 Tryd.underlying3 hi hz0 n h0 (by omega) (by omega) (by rw [hz2]; omega)
    obtain ⟨c, hc⟩ : ∃ c, c = grownCap w n 0 3 := ⟨_, rfl⟩
    have hcm : c ≤ maxLen := by
      have := grownCap_le_maxLen w n 0 3 (by unfold maxLen; omega)
      omega
    have hge : n ≤ c := by
      have := grownCap_ge w n 0 3
      omega
    rw [← hc] at hr
    obtain ⟨cs, hcs⟩ : ∃ cs, cs = Builtin.zeroCells (Value.int .i64 0).cells n ++ Builtin.zeroCells (Value.int .i64 0).cells (c - n) := ⟨_, rfl⟩
    rw [← hcs] at hr
    have hsz : cs.size = c := by
      rw [hcs, Array.size_append, size_zeroCells, size_zeroCells]
      simp [Value.cells]
      omega
    have ho : Own (w.drew.alloc (.cells cs 3)) w.heap.size (.slice (some ⟨w.heap.size, 0, none⟩) 0 c) [] := World.ownsRow_made w.drew cs c (Nat.le_refl _) hcm (by rw [hsz, Nat.mul_one])
    have hb : Below w.heap.size w (w.drew.alloc (.cells cs 3)) := (below_drewN (Below.refl w.heap.size w) 1).alloc (Nat.le_refl _) _
    have HO := Lib.hid ho
    have HB := Lib.hid hb
    have n1 : (0 : Int) < (n : Int) := by omega
    have n2 : (n : Int) ≤ 17592186044416 := by omega
    have n3 : 0 < n := h0
    have c1 : (c : Int) ≤ 9223372036854775807 := by unfold maxLen at hcm; omega
    clear hc hcs hsz hi hz0 hz1 hz2 ho hb hcm
    go_enter Tryd.func47, Tryd.ntmps47
    go_wp2_with (at_builtin; refine Lib.wpList_append_run _ rfl _ _ _ _ rfl _ _ rfl rfl _ _ hr ?_)
    go_ret
    exact ⟨_, rfl, HO.out, HB.out⟩
theorem flat_take {ts : List (List Int)} {k : Nat} (hk : k < ts.length) : (ts.take (k + 1)).flatten = (ts.take k).flatten ++ ts[k] := by
  rw [List.take_succ_eq_append_getElem hk, List.flatten_append]; simp
theorem flat_le (ts : List (List Int)) (k : Nat) : (ts.take k).flatten.length ≤ ts.flatten.length := by
  have h := congrArg (fun l => (List.flatten l).length) (List.take_append_drop k ts)
  simp only [List.flatten_append, List.length_append] at h
  omega
set_option maxRecDepth 100000 in
set_option maxHeartbeats 2000000 in
theorem concat_any (A : Option Addr) (m c : Nat) (ts : List (List Int)) (hm : ts.length = m) (hmm : m ≤ 1000000) (htot : ts.flatten.length * 8 ≤ 140737488355328) (w : World) (hT : TB w A ts) :
    Calls Tryd.prog 33 #[.slice A m c] w fun e w' => Made ts.flatten w e w' := by
  have HT := Lib.hid hT
  have HM := Lib.hid hm
  obtain ⟨N, hN⟩ : ∃ N, N = ts.flatten.length := ⟨_, rfl⟩
  have HN := Lib.hid hN
  rw [← hN] at htot
  have HG := Lib.hid (fun w => grow_nil N htot w)
  clear hT hm hN
  go_enter Tryd.func33, Tryd.ntmps33
  go_wp2
  go_loop [3, 11, 5] (fun s t _ => ∃ k : Nat, k ≤ m ∧ t = vi k ∧ s = vi ((ts.take k).flatten.length : Nat)) (fun _ t _ => m - (intOf t).toNat)
  case atStart => exact ⟨0, by omega, rfl, by simp⟩
  case round =>
    obtain ⟨k, hk, rfl, rfl⟩ := hrel
    have hle := flat_le ts k
    rw [← HN.out] at hle
    by_cases hkm : k < m
    · obtain ⟨ad, A1, n1, c1, rfl, hb1, hc1, hl1, hn1, _, _⟩ := HT.out k (by rw [HM.out]; exact hkm)
      have hft := flat_take (ts := ts) (k := k) (by rw [HM.out]; exact hkm)
      have hft2 := congrArg List.length hft
      rw [List.length_append, hl1] at hft2
      have hle2 := flat_le ts (k + 1)
      rw [← HN.out] at hle2
      obtain ⟨S, hS⟩ : ∃ S, S = (ts.take k).flatten.length := ⟨_, rfl⟩
      rw [← hS] at hft2 hle ⊢
      have k1 : (0 : Int) ≤ (k : Int) := by omega
      have k2 : (k : Int) < (m : Int) := by omega
      have s1 : (0 : Int) ≤ (S : Int) := by omega
      have s2 : (0 : Int) ≤ (S : Int) + (n1 : Int) := by omega
      have s3 : (S : Int) + (n1 : Int) ≤ 17592186044416 := by omega
      have HF := Lib.hid hft2
      clear hft hft2 hS hl1 hle2 hb1
      go_wp2
      go_round
      case rel => exact ⟨k + 1, by omega, by go_num, by rw [HF.out]; go_num⟩
      case measure => simp [intOf]; omega
    · have ek : k = m := by omega
      have hall : (ts.take k).flatten.length = N := by rw [ek, ← HM.out, List.take_length]; exact HN.out.symm
      rw [hall]
      have t1 : ¬ (k : Int) < (m : Int) := by omega
      clear ek hall hle
      go_wp2_with fail
      refine (HG.out w).mono ?_
      rintro _ w1 ⟨v, rfl, ho, hb⟩
      go_wp2
      go_loopw [6, 27, 8] (fun v t _ wr => ∃ k : Nat, k ≤ m ∧ t = vi k ∧ Own wr w.heap.size v (ts.take k).flatten ∧ Below w.heap.size w wr) (fun _ t _ _ => m - (intOf t).toNat)
      case atStart => exact ⟨0, by omega, rfl, ho, hb⟩
      case round =>
        clear ho hb
        obtain ⟨k, hk, rfl, ho, hb⟩ := hrel
        by_cases hkm : k < m
        · obtain ⟨ad, A1, n1, c1, rfl, hb1, hc1, hl1, hn1, hs1, _⟩ := HT.out k (by rw [HM.out]; exact hkm)
          have hc1r := (hb.cell (p := ad.add k) hb1).trans hc1
          have hft := flat_take (ts := ts) (k := k) (by rw [HM.out]; exact hkm)
          have hle2 := flat_le ts (k + 1)
          have hft2 := congrArg List.length hft
          rw [List.length_append, hl1] at hft2
          rw [← HN.out] at hle2
          have hlim : (ts.take k).flatten.length + n1 ≤ 17592186044416 := by omega
          have HF := Lib.hid hft
          have HL1 := Lib.hid hl1
          have HLIM := Lib.hid hlim
          have hs1r := hs1.below hb
          have k1 : (0 : Int) ≤ (k : Int) := by omega
          have k2 : (k : Int) < (m : Int) := by omega
          clear hft hft2 hle2 hlim hl1 hb1 hc1 hs1
          go_wp2_with (at_builtin; refine wpList_appA wr rfl _ _ rfl w.heap.size _ _ A1 n1 c1 _ rfl rfl HL1.out ho hs1r HLIM.out hb.size ?_; intro v' w2 hg)
          have ho2 := hg.own
          have hb2 := hg.below hb ho (Nat.le_refl _) hb.size
          rw [← HF.out] at ho2
          exact ⟨⟨k + 1, by omega, by go_num, ho2, hb2⟩, by simp [intOf]; omega⟩
        · have ek : k = m := by omega
          have hall : (ts.take k).flatten = ts.flatten := by rw [ek, ← HM.out, List.take_length]
          rw [hall] at ho
          have t1 : ¬ (k : Int) < (m : Int) := by omega
          clear ek hall
          go_wp2
          go_ret
          exact ⟨_, rfl, ho, hb⟩
end Go.Proofs.YtijhajkakmohnaaDoor

/- The walks of package chain: told, New, Take, Draw, Draws, Place, Digest, Fork. -/
set_option linter.unusedVariables false
namespace Go.Proofs.YtijhajkakmohnaaDoor
open Go.RowKit Zp

/-- append(v, ys...), at a step of a region that draws its order -/
theorem step_appA {ops : Array Oper} {o : Oper} {a : Act} {K : Act → World → Prop} {Q : Exit → Act → World → Prop} {E : Prop} (w : World) (hgd : o.guard = none) (s x : Operand)
    (ho : o.op = .call { callee := .builtin .append, args := #[s, x], argTypes := #[22, 22] })
    (base : Nat) (v : Value) (xs : List Int) (A : Option Addr) (m c : Nat) (ys : List Int) (hs : a.eval s = v) (hx : a.eval x = .slice A m c) (hm : ys.length = m) (hown : Own w base v xs) (hr : SL w A ys) (hlen : xs.length + m ≤ 17592186044416) (hbase : base ≤ w.heap.size)
    (h : ∀ v' w', Grew w w' base v v' (xs ++ ys) → K (a.put o.dst v') w') :
    if Region.wanted o (yielded ops a.tmps) = true then Oper.wp Tryd.prog o a w K Q else E := by
  have hw : Region.wanted o (yielded ops a.tmps) = true := by simp [Region.wanted, hgd]
  rw [if_pos hw]
  obtain ⟨v', w', hrun, hg⟩ := run_appA w base v xs A m c ys hm hown hr hlen hbase o.type
  unfold Oper.wp execOp
  simp only [ho, resolve, invoke, builtin, Sem.run_bind, Sem.run_pure, Result.andThen_ok, List.map_toArray, List.map_cons, List.map_nil, hs, hx, hrun]
  exact h v' w' hg
theorem firstA {w w2 : World} {x : Int} (hb2 : Below (w.alloc (.cells #[vi x] 3)).drew.heap.size (w.alloc (.cells #[vi x] 3)).drew w2) : Own w2 w.heap.size (.slice (some ⟨w.heap.size, 0, none⟩) 1 1) [x] :=
  Own.below (w := (w.alloc (.cells #[vi x] 3)).drew) (own_lit w w.heap.size [x] (Nat.le_refl _) (by simp [maxLen])) hb2
theorem firstB {w w2 : World} {x : Int} (h : w.heap.size ≤ w2.heap.size) : Own (w2.alloc (.cells #[vi x] 3)) w.heap.size (.slice (some ⟨w2.heap.size, 0, none⟩) 1 1) [x] :=
  own_lit w2 w.heap.size [x] h (by simp [maxLen])
theorem below_first (w : World) (x : Int) : Below w.heap.size w (w.alloc (.cells #[vi x] 3)).drew := below_drewN ((Below.refl _ _).alloc (Nat.le_refl _) _) 1
/-- the object of a chain -/
def ChO (w : World) (c s : Nat) (v : Value) : Prop := Blk w c 52 #[.pointer (some ⟨s, 0, none⟩), v]
/-- what is left of told -/
def ToldIs {p : Nat} [NeZero p] (c s : Nat) (D : Nat → Fin p) (w : World) (e : Ending) (w' : World) : Prop :=
  (∃ r, e = .returned r) ∧ ∃ g : Nat, ChO w' c s (.slice (some ⟨g, 0, none⟩) 4 4) ∧ Blk w' g 65 (st fun j => fv (D j)) ∧ w.heap.size ≤ g ∧ w.grownBy w' (some c)
set_option maxRecDepth 100000 in
set_option maxHeartbeats 8000000 in
theorem told_c (p S b s k z c : Nat) [NeZero p] (oo : Nat → Nat → Fin p) (first : Int) (hfi : I64 first) (A : Option Addr) (m cap : Nat) (ts : List (List Int)) (hm : ts.length = m) (hmm : m ≤ 1000000) (hI : ∀ x ∈ ts.flatten, I64 x) (htot : ts.flatten.length * 8 + 80 ≤ 140737488355328) (v : Value) (w : World) (F : Fld w S b p) (G : Spg w s b k z oo) (hS : S ≤ c) (hs : s < c) (hC : ChO w c s v) (hT : TB w A ts) :
    Calls Tryd.prog 15 #[.pointer (some ⟨c, 0, none⟩), vi first, .slice A m cap] w fun e w' => ToldIs c s (digE p k (first :: ts.flatten)) w e w' := by
  have hcl := Blk.lt hC
  have hcs : w.cell? ⟨c, 0, none⟩ = some (.pointer (some ⟨s, 0, none⟩)) := (Blk.cell hC 0).trans rfl
  have HCC := Lib.hid (fun W (hW : TB W A ts) => concat_any A m cap ts hm hmm (by omega) W hW)
  have HH := Lib.hid (fun W A n cp (hA : SL W A (first :: ts.flatten)) (hn : (first :: ts.flatten).length = n) (F : Fld W S b p) (G : Spg W s b k z oo) => hash_any p S b s k z oo A n cp (first :: ts.flatten) hn (by
    intro x hx
    rcases List.mem_cons.1 hx with rfl | hx
    · exact hfi
    · exact hI x hx) (by rw [List.length_cons] at hn; omega) W F G hA)
  have HF := Lib.hid F
  have HG := Lib.hid G
  have HT := Lib.hid hT
  have HC := Lib.hid hC
  obtain ⟨L, hL⟩ : ∃ L, L = ts.flatten := ⟨_, rfl⟩
  have hLl : L.length + 1 ≤ 17592186044416 := by rw [hL]; omega
  rw [← hL] at HCC HH ⊢
  clear hL F G hT hC hm hmm hI htot
  go_enter Tryd.func15, Tryd.ntmps15
  go_wp2_with fail
  have HTA := Lib.hid (HT.out.below (below_first w first))
  have hcsA : (w.alloc (.cells #[vi first] 3)).drew.cell? ⟨c, 0, none⟩ = some (.pointer (some ⟨s, 0, none⟩)) := ((below_first w first).cell (p := ⟨c, 0, none⟩) hcl).trans hcs
  go_region_held3 (fun w' => w'.cell? ⟨c, 0, none⟩ = some (.pointer (some ⟨s, 0, none⟩))) (first | exact hcs | exact hcsA | exact (World.cell?_setCell_other _ _ _ _ (by simp)).trans ((hb4.cell (p := ⟨c, 0, none⟩) hcl).trans hcs) | exact (hb4.cell (p := ⟨c, 0, none⟩) hcl).trans hcs | exact (hb3.cell (p := ⟨c, 0, none⟩) hcl).trans hcs | exact (hb2.cell (p := ⟨c, 0, none⟩) hcl).trans hcs | go_keep) ((first
    | (go_at_call 33; refine (HCC.out _ (by first | exact HT.out | exact HTA.out)).mono ?_; rintro _ w2 ⟨v2, rfl, ho2, hb2'⟩; obtain ⟨A2, n2, c2, rfl, hl2, _, _, hs2⟩ := ho2.shapeN; have HL2 := Lib.hid hl2; have hb2 : Below w.heap.size w w2 := (by first | exact hb2' | exact ⟨hb2'.os, hb2'.tape, hb2'.output, hb2'.size, hb2'.block⟩ | exact (below_first w first).trans (hb2'.mono (below_first w first).size)); have HB2 := Lib.hid hb2'; clear hl2 ho2 hb2')
    | (refine step_appA _ (by rfl) _ _ (by rfl) w.heap.size _ [first] A2 n2 c2 L (by rfl) (by rfl) HL2.out (firstA HB2.out) hs2 (by have := HL2.out; simp; omega) hb2.size ?_; intro v3 w3 hg3; have ho3 := hg3.own; have hb3 := hg3.below hb2 (firstA HB2.out) (Nat.le_refl _) hb2.size; obtain ⟨A3, n3, c3, rfl, hl3, _, _, hs3⟩ := ho3.shapeN; have HL3 := Lib.hid hl3; clear hl3 ho3 hg3)
    | (refine step_appA _ (by rfl) _ _ (by rfl) w.heap.size _ [first] A2 n2 c2 L (by rfl) (by rfl) HL2.out (firstB hb2.size) (hs2.below ((Below.refl _ w2).alloc (Nat.le_refl _) _)) (by have := HL2.out; simp; omega) (by have := hb2.size; simp; omega) ?_; intro v3 w3 hg3; have ho3 := hg3.own; have hb3 := hg3.below (hb2.alloc hb2.size _) (firstB hb2.size) (Nat.le_refl _) (by have := hb2.size; simp; omega); obtain ⟨A3, n3, c3, rfl, hl3, _, _, hs3⟩ := ho3.shapeN; have HL3 := Lib.hid hl3; clear hl3 ho3 hg3)
    | (go_at_call 32; refine (HH.out _ A3 n3 c3 hs3 HL3.out (HF.out.below hb3 HF.out.le) (HG.out.below hb3 (by omega))).mono ?_; rintro _ w4 ⟨g, rfl, hB4, hg4, hb4'⟩; have hb4 := hb3.trans (hb4'.mono hb3.size); have hC4 := Blk.below HC.out hb4 hcl; have cc1 := Blk.cell hC4 1; have cf1 := Blk.frozen hC4 1)))
  all_goals have hs34 := hb3.size
  all_goals have hgc : g ≠ c := by omega
  all_goals have hfin : ToldIs c s (digE p k (first :: L)) w (.returned undef) (w4.setCell ⟨c, 1, none⟩ (.slice (some ⟨g, 0, none⟩) 4 4)) := ⟨⟨_, rfl⟩, g, Blk.set_ hC4 1 (.slice (some ⟨g, 0, none⟩) 4 4), hB4.far (p := ⟨c, 1, none⟩) hgc _, by omega, grownBy_trans (grown_of_below hb4 _) blk_grown⟩
  all_goals have HFIN := Lib.hid hfin
  all_goals clear hfin
  all_goals go_wp2
  all_goals go_end0
  all_goals exact ⟨⟨_, rfl⟩, HFIN.out.2⟩
/-- a chain in memory, whose digest reads D -/

def Dty (t : TypeId) : Prop := t = 3 ∨ t = 65
theorem Dty.ne {t u : TypeId} (h : Dty t) (h1 : u ≠ 3) (h2 : u ≠ 65) : t ≠ u := fun e => by
  subst e
  rcases h with h | h
  · exact h1 h
  · exact h2 h
def Chn (w : World) (c s : Nat) (D : List Int) : Prop :=
  ∃ (g cap : Nat) (t : TypeId) (cs : Array Value), ChO w c s (.slice (some ⟨g, 0, none⟩) 4 cap) ∧ Blk w g t cs ∧ Dty t ∧ SL w (some ⟨g, 0, none⟩) D ∧ D.length = 4 ∧ 4 ≤ cap ∧ cap ≤ maxLen ∧ ∀ x ∈ D, I64 x
theorem Chn.far {w w' : World} {c s x : Nat} {D : List Int} {v : Value} (h : Chn w c s D) (hx : ChO w x s v) (hg : w.grownBy w' (some x)) (hne : c ≠ x) : Chn w' c s D := by
  obtain ⟨g, cap, t, cs, h1, h2, h3, h4, h5, h6, h7, h8⟩ := h
  have hgx : g ≠ x := Blk.ne_ h2 hx (h3.ne (by decide) (by decide))
  exact ⟨g, cap, t, cs, Blk.grown h1 hg (by intro e; injection e with e; exact hne e), h2.grown hg (by intro e; injection e with e; exact hgx e), h3, h4.far hg hgx, h5, h6, h7, h8⟩
theorem Chn.below {w w' : World} {c s : Nat} {D : List Int} (h : Chn w c s D) (hb : Below w.heap.size w w') : Chn w' c s D := by
  obtain ⟨g, cap, t, cs, h1, h2, h3, h4, h5, h6, h7, h8⟩ := h
  exact ⟨g, cap, t, cs, Blk.below h1 hb (Blk.lt h1), h2.below hb h2.lt, h3, h4.below hb, h5, h6, h7, h8⟩
theorem Chn.drewN {w : World} {c s : Nat} {D : List Int} (h : Chn w c s D) (n : Nat) : Chn (w.drewN n) c s D := h
theorem Chn.lt {w : World} {c s : Nat} {D : List Int} (h : Chn w c s D) : c < w.heap.size := by
  obtain ⟨g, cap, t, cs, h1, _⟩ := h
  exact Blk.lt h1
theorem Chn.obj {w : World} {c s : Nat} {D : List Int} (h : Chn w c s D) : ∃ v, ChO w c s v := by
  obtain ⟨g, cap, t, cs, h1, _⟩ := h
  exact ⟨_, h1⟩
/-- the digest lies elsewhere -/
def DigNe (w : World) (c x : Nat) : Prop := ∃ g cap : Nat, w.cell? ⟨c, 1, none⟩ = some (.slice (some ⟨g, 0, none⟩) 4 cap) ∧ g ≠ x
/-- the digest lies in new memory -/
def DigNew (w : World) (c B : Nat) : Prop := ∃ g cap : Nat, w.cell? ⟨c, 1, none⟩ = some (.slice (some ⟨g, 0, none⟩) 4 cap) ∧ B ≤ g
theorem DigNew.ne {w : World} {c B x : Nat} (h : DigNew w c B) (hx : x < B) : DigNe w c x := by
  obtain ⟨g, cap, h1, h2⟩ := h
  exact ⟨g, cap, h1, by omega⟩
theorem DigNew.less {w : World} {c B B' : Nat} (h : DigNew w c B) (hx : B' ≤ B) : DigNew w c B' := by
  obtain ⟨g, cap, h1, h2⟩ := h
  exact ⟨g, cap, h1, by omega⟩
theorem Chn.keepX {w w' : World} {c s x : Nat} {D : List Int} (h : Chn w c s D) (hg : w.grownBy w' (some x)) (hne : c ≠ x) (hd : DigNe w c x) : Chn w' c s D := by
  obtain ⟨g, cap, t, cs, h1, h2, h3, h4, h5, h6, h7, h8⟩ := h
  obtain ⟨g', cap', hc', hgx⟩ := hd
  have : w.cell? ⟨c, 1, none⟩ = some (.slice (some ⟨g, 0, none⟩) 4 cap) := (Blk.cell h1 1).trans rfl
  rw [this] at hc'
  injection hc' with hc'
  injection hc' with e _ _
  injection e with e
  injection e with e _ _
  subst e
  exact ⟨g, cap, t, cs, Blk.grown h1 hg (by intro e; injection e with e; exact hne e), h2.grown hg (by intro e; injection e with e; exact hgx e), h3, h4.far hg hgx, h5, h6, h7, h8⟩
/-- a step of a chain -/
def StepIs (c s : Nat) (D : List Int) (w : World) (e : Ending) (w' : World) : Prop := (∃ r, e = .returned r) ∧ Chn w' c s D ∧ w.grownBy w' (some c) ∧ DigNew w' c w.heap.size
theorem i64_digL {p k : Nat} [NeZero p] (hm : p ≤ 2147483647) (l : List Int) : ∀ x ∈ digL p k l, I64 x := by
  intro x hx
  obtain ⟨j, _, rfl⟩ := List.mem_map.1 hx
  exact i64_fv _ hm
theorem ToldIs.step {p k : Nat} [NeZero p] (hm : p ≤ 2147483647) {c s : Nat} {l : List Int} {w w' : World} {e : Ending} (h : ToldIs c s (digE p k l) w e w') : StepIs c s (digL p k l) w e w' := by
  obtain ⟨hr, g, h1, h2, h3, h4⟩ := h
  exact ⟨hr, ⟨g, 4, _, _, h1, h2, .inr rfl, dig_sl h2, digL_len _ _, Nat.le_refl _, by simp [maxLen], i64_digL hm l⟩, h4, ⟨g, 4, (Blk.cell h1 1).trans rfl, h3⟩⟩
theorem tb_lit1 {w : World} {A : Option Addr} {n c : Nat} {xs : List Int} (h : SL w A xs) (hl : xs.length = n) (hn : n < 9223372036854775808) (hI : ∀ x ∈ xs, I64 x) :
    TB (w.alloc (.cells #[.slice A n c] 22)) (some ⟨w.heap.size, 0, none⟩) [xs] := fun k hk => by
  have e : k = 0 := by simp at hk; omega
  subst e
  exact ⟨_, A, n, c, rfl, by simp [Addr.add], by rw [Addr.add_mid]; exact ((Blk.new w 22 #[.slice A n c]).cell 0).trans rfl, hl, hn, h.below ((Below.refl _ _).alloc (Nat.le_refl _) _), hI⟩
theorem tb_lit2 {w : World} {A B : Option Addr} {n c m d : Nat} {xs ys : List Int} (h : SL w A xs) (hl : xs.length = n) (hn : n < 9223372036854775808) (hI : ∀ x ∈ xs, I64 x) (h' : SL w B ys) (hl' : ys.length = m) (hn' : m < 9223372036854775808) (hI' : ∀ x ∈ ys, I64 x) :
    TB (w.alloc (.cells #[.slice A n c, .slice B m d] 22)) (some ⟨w.heap.size, 0, none⟩) [xs, ys] := fun k hk => by
  have hb : Below w.heap.size w (w.alloc (.cells #[.slice A n c, .slice B m d] 22)) := (Below.refl _ _).alloc (Nat.le_refl _) _
  match k, hk with
  | 0, _ => exact ⟨_, A, n, c, rfl, by simp [Addr.add], by rw [Addr.add_mid]; exact ((Blk.new w 22 #[.slice A n c, .slice B m d]).cell 0).trans rfl, hl, hn, h.below hb, hI⟩
  | 1, _ => exact ⟨_, B, m, d, rfl, by simp [Addr.add], by rw [Addr.add_mid]; exact ((Blk.new w 22 #[.slice A n c, .slice B m d]).cell 1).trans rfl, hl', hn', h'.below hb, hI'⟩
theorem grown_alloc {w w' : World} {o : Obj} {row : Option Nat} (h : (w.alloc o).grownBy w' row) : w.grownBy w' row := grownBy_trans (World.grownBy_alloc w o row) h
set_option maxRecDepth 100000 in
set_option maxHeartbeats 4000000 in
theorem chnew_any (p S b s k z : Nat) [NeZero p] (oo : Nat → Nat → Fin p) (A : Option Addr) (n cap : Nat) (l : List Int) (hn : l.length = n) (hI : ∀ x ∈ l, I64 x) (hr : n * 8 ≤ 140737488351232) (w : World) (F : Fld w S b p) (G : Spg w s b k z oo) (hs : SL w A l) :
    Calls Tryd.prog 5 #[.pointer (some ⟨s, 0, none⟩), .slice A n cap] w fun e w' => e = .returned (.pointer (some ⟨w.heap.size, 0, none⟩)) ∧ Chn w' w.heap.size s (digL p k (2 :: l)) ∧ Below w.heap.size w w' := by
  have hsl := block_lt_of_cell G.c0
  have hb1 : Below w.heap.size w (w.alloc (.cells #[.pointer (some ⟨s, 0, none⟩), .slice none 0 0] 52)) := (Below.refl _ _).alloc (Nat.le_refl _) _
  have hC := Blk.new w 52 #[.pointer (some ⟨s, 0, none⟩), .slice none 0 0]
  obtain ⟨W, hW⟩ : ∃ W, W = w.alloc (.cells #[.pointer (some ⟨s, 0, none⟩), .slice none 0 0] 52) := ⟨_, rfl⟩
  rw [← hW] at hb1 hC
  have hWs : W.heap.size = w.heap.size + 1 := by rw [hW]; simp
  have hb2 : Below W.heap.size W (W.alloc (.cells #[.slice A n cap] 22)) := (Below.refl _ _).alloc (Nat.le_refl _) _
  have hb12 := hb1.trans (hb2.mono hb1.size)
  have ht := told_c p S b s k z w.heap.size oo 2 ⟨by omega, by omega⟩ (some ⟨W.heap.size, 0, none⟩) 1 1 [l] rfl (by omega) (by simpa using hI) (by simp; omega) (.slice none 0 0) _ (F.below hb12 F.le) (G.below hb12 hsl) F.le hsl (Blk.below hC hb2 (by omega)) (tb_lit1 (hs.below hb1) hn (by omega) hI)
  rw [show [l].flatten = l by simp] at ht
  rw [hWs] at ht
  have HT := Lib.hid (ht.mono fun e w' h => h.step F.max)
  have HB := Lib.hid hb12
  rw [hW] at HT HB
  clear ht hb1 hb2 hb12 hC hWs hW F G hs hn hI
  go_enter Tryd.func5, Tryd.ntmps5
  go_wp2_with fail
  refine (HT.out).mono ?_
  rintro _ w3 ⟨⟨r, rfl⟩, hc3, hg3, hn3⟩
  clear hn3
  have HC := Lib.hid hc3
  have HG3 := Lib.hid (HB.out.grown hg3 HB.out.size (fun k hk => by injection hk with hk; omega))
  clear hc3 hg3
  go_wp2
  go_ret
  exact ⟨rfl, HC.out, HG3.out⟩
set_option maxRecDepth 100000 in
set_option maxHeartbeats 4000000 in
theorem chtake_any (p S b s k z c : Nat) [NeZero p] (oo : Nat → Nat → Fin p) (D : List Int) (A : Option Addr) (n cap : Nat) (l : List Int) (hn : l.length = n) (hI : ∀ x ∈ l, I64 x) (hr : n * 8 ≤ 140737488351232) (w : World) (F : Fld w S b p) (G : Spg w s b k z oo) (hS : S ≤ c) (hsc : s < c) (hC : Chn w c s D) (hs : SL w A l) :
    Calls Tryd.prog 18 #[.pointer (some ⟨c, 0, none⟩), .slice A n cap] w fun e w' => StepIs c s (digL p k (3 :: (D ++ l))) w e w' := by
  have hm := F.max
  obtain ⟨g, cg, t, cs, h1, h2, h3, h4, h5, h6, h7, h8⟩ := hC
  have hcd : w.cell? ⟨c, 1, none⟩ = some (.slice (some ⟨g, 0, none⟩) 4 cg) := (Blk.cell h1 1).trans rfl
  have hb : Below w.heap.size w (w.alloc (.cells #[.slice (some ⟨g, 0, none⟩) 4 cg, .slice A n cap] 22)) := (Below.refl _ _).alloc (Nat.le_refl _) _
  have ht := told_c p S b s k z c oo 3 ⟨by omega, by omega⟩ (some ⟨w.heap.size, 0, none⟩) 2 2 [D, l] rfl (by omega) (by
    intro x hx
    simp at hx
    rcases hx with hx | hx
    · exact h8 x hx
    · exact hI x hx) (by simp; omega) _ _ (F.below hb F.le) (G.below hb (Nat.lt_trans hsc (Blk.lt h1))) hS hsc (Blk.below h1 hb (Blk.lt h1)) (tb_lit2 h4 h5 (by omega) h8 hs hn (by omega) hI)
  rw [show [D, l].flatten = D ++ l by simp] at ht
  have HT := Lib.hid (ht.mono fun e w' h => h.step hm)
  clear ht h1 h2 h3 h4 h5 h6 h7 h8 hb F G hs hn hI
  go_enter Tryd.func18, Tryd.ntmps18
  go_wp2_with fail
  refine (HT.out).mono ?_
  rintro _ w3 ⟨⟨r, rfl⟩, hc3, hg3, hn3⟩
  have HR := Lib.hid (show StepIs c s (digL p k (3 :: (D ++ l))) w (.returned undef) w3 from ⟨⟨_, rfl⟩, hc3, grown_alloc hg3, hn3.less (by simp)⟩)
  clear hc3 hg3 hn3
  go_wp2
  go_end0
  exact ⟨⟨_, rfl⟩, HR.out.2⟩
/-- a chain told its digest -/
def drawnL (p k : Nat) [NeZero p] (D : List Int) : List Int := digL p k (4 :: D)
theorem drawnL_len {p k : Nat} [NeZero p] (D : List Int) : (drawnL p k D).length = 4 := digL_len _ _
def DrawIs {p : Nat} [NeZero p] (k c s : Nat) (D : List Int) (w : World) (e : Ending) (w' : World) : Prop := e = .returned (vi ((drawnL p k D).getD 0 0)) ∧ Chn w' c s (drawnL p k D) ∧ w.grownBy w' (some c) ∧ DigNew w' c w.heap.size
set_option maxRecDepth 100000 in
set_option maxHeartbeats 4000000 in
theorem chdraw_any (p S b s k z c : Nat) [NeZero p] (oo : Nat → Nat → Fin p) (D : List Int) (w : World) (F : Fld w S b p) (G : Spg w s b k z oo) (hS : S ≤ c) (hsc : s < c) (hC : Chn w c s D) :
    Calls Tryd.prog 19 #[.pointer (some ⟨c, 0, none⟩)] w fun e w' => DrawIs (p := p) k c s D w e w' := by
  have hm := F.max
  obtain ⟨g, cg, t, cs, h1, h2, h3, h4, h5, h6, h7, h8⟩ := hC
  have hcd : w.cell? ⟨c, 1, none⟩ = some (.slice (some ⟨g, 0, none⟩) 4 cg) := (Blk.cell h1 1).trans rfl
  have hb : Below w.heap.size w (w.alloc (.cells #[.slice (some ⟨g, 0, none⟩) 4 cg] 22)) := (Below.refl _ _).alloc (Nat.le_refl _) _
  have ht := told_c p S b s k z c oo 4 ⟨by omega, by omega⟩ (some ⟨w.heap.size, 0, none⟩) 1 1 [D] rfl (by omega) (by simpa using h8) (by simp; omega) _ _ (F.below hb F.le) (G.below hb (Nat.lt_trans hsc (Blk.lt h1))) hS hsc (Blk.below h1 hb (Blk.lt h1)) (tb_lit1 h4 h5 (by omega) h8)
  rw [show [D].flatten = D by simp] at ht
  have HT := Lib.hid (ht.mono fun e w' h => h.step hm)
  clear ht h1 h2 h3 h4 h5 h6 h7 h8 hb F G
  go_enter Tryd.func19, Tryd.ntmps19
  go_wp2_with fail
  refine (HT.out).mono ?_
  rintro _ w3 ⟨⟨r, rfl⟩, hc3, hg3, hn3⟩
  obtain ⟨g, cg, t, cs, h1, h2, h3, h4, h5, h6, h7, h8⟩ := id hc3
  have hcd3 : w3.cell? ⟨c, 1, none⟩ = some (.slice (some ⟨g, 0, none⟩) 4 cg) := (Blk.cell h1 1).trans rfl
  obtain ⟨X, hX⟩ : ∃ X, X = (drawnL p k D).getD 0 0 := ⟨_, rfl⟩
  have hg0 : w3.cell? ⟨g, 0, none⟩ = some (vi X) := by
    obtain ⟨ad, ea, _, hc⟩ := SL.at_ (k := 0) h4 (by rw [h5]; omega)
    injection ea with ea
    subst ea
    rw [Addr.add_mid] at hc
    rw [hX, hc]
    simp only [drawnL, List.getD, List.getElem?_eq_getElem (show 0 < (digL p k (4 :: D)).length by rw [h5]; omega), Option.getD_some]
  have HR := Lib.hid (show DrawIs (p := p) k c s D w (.returned (vi X)) w3 from ⟨by rw [hX], hc3, grown_alloc hg3, hn3.less (by simp)⟩)
  clear hc3 hg3 hn3 h1 h2 h3 h4 h5 h6 h7 h8 hX
  go_wp2
  go_ret
  exact HR.out
/-- the number below n that a digest gives -/
def placeV (p : Nat) (D : List Int) (n : Int) : Int := (D.getD 0 0 * p + D.getD 1 0) % n
def PlaceIs {p : Nat} [NeZero p] (k c s : Nat) (D : List Int) (n : Int) (w : World) (e : Ending) (w' : World) : Prop := e = .returned (vi (placeV p (drawnL p k D) n)) ∧ Chn w' c s (drawnL p k D) ∧ w.grownBy w' (some c)
theorem digL_bounds {p k : Nat} [NeZero p] (l : List Int) {j : Nat} (hj : j < 4) : ∃ x : Fin p, (digL p k l).getD j 0 = fv x := by
  refine ⟨digE p k l j, ?_⟩
  unfold digL
  simp [List.getD, hj]
set_option maxRecDepth 100000 in
theorem chplace_no (c : Nat) (n : Int) (hn : I64 n) (h : n < 1 ∨ 65536 < n) (w : World) :
    Calls Tryd.prog 22 #[.pointer (some ⟨c, 0, none⟩), vi n] w fun e w' => e = .returned (vi 0) ∧ w = w' := by
  obtain ⟨h1, h2⟩ := hn
  rcases h with h | h
  · go_enter Tryd.func22, Tryd.ntmps22
    go_wp2
    go_ret
    exact ⟨rfl, rfl⟩
  · have h3 : 1 ≤ n := by omega
    go_enter Tryd.func22, Tryd.ntmps22
    go_wp2
    go_ret
    exact ⟨rfl, rfl⟩
set_option maxRecDepth 100000 in
set_option maxHeartbeats 4000000 in
theorem chplace_any (p S b s k z c : Nat) [NeZero p] (oo : Nat → Nat → Fin p) (D : List Int) (n : Int) (hn1 : 1 ≤ n) (hn2 : n ≤ 65536) (w : World) (F : Fld w S b p) (G : Spg w s b k z oo) (hS : S ≤ c) (hsc : s < c) (hC : Chn w c s D) :
    Calls Tryd.prog 22 #[.pointer (some ⟨c, 0, none⟩), vi n] w fun e w' => PlaceIs (p := p) k c s D n w e w' := by
  have hm := F.max
  have hd := Lib.hid (chdraw_any p S b s k z c oo D w F G hS hsc hC)
  have HF := Lib.hid F
  have HG := Lib.hid G
  have hcw := hC.lt
  clear F G hC
  go_enter Tryd.func22, Tryd.ntmps22
  go_wp2_with fail
  refine (hd.out).mono ?_
  rintro _ w3 ⟨rfl, hc3, hg3, _⟩
  obtain ⟨x0, hx0⟩ := digL_bounds (p := p) (k := k) (4 :: D) (show 0 < 4 by omega)
  obtain ⟨x1, hx1⟩ := digL_bounds (p := p) (k := k) (4 :: D) (show 1 < 4 by omega)
  have hbc : Below c w w3 := (Below.refl c w).grown hg3 (by omega) (fun k hk => by injection hk with hk; omega)
  have hF3 := HF.out.below hbc hS
  have hG3 := HG.out.below hbc hsc
  obtain ⟨g, cg, t, cs, h1, h2, h3, h4, h5, h6, h7, h8⟩ := id hc3
  have hc0 : w3.cell? ⟨c, 0, none⟩ = some (.pointer (some ⟨s, 0, none⟩)) := (Blk.cell h1 0).trans rfl
  have hcd3 : w3.cell? ⟨c, 1, none⟩ = some (.slice (some ⟨g, 0, none⟩) 4 cg) := (Blk.cell h1 1).trans rfl
  have hg1 : w3.cell? ⟨g, 1, none⟩ = some (vi (fv x1)) := by
    obtain ⟨ad, ea, _, hc⟩ := SL.at_ (k := 1) h4 (by rw [h5]; omega)
    injection ea with ea
    subst ea
    rw [Addr.add_mid] at hc
    rw [hc, ← hx1]
    simp only [drawnL, List.getD, List.getElem?_eq_getElem (show 1 < (digL p k (4 :: D)).length by rw [digL_len]; omega), Option.getD_some]
  have e0 : (drawnL p k D).getD 0 0 = fv x0 := hx0
  have e1 : (drawnL p k D).getD 1 0 = fv x1 := hx1
  rw [e0]
  have a1 := fv_nonneg x0
  have a2 := fv_lt x0
  have b1 := fv_nonneg x1
  have b2 := fv_lt x1
  obtain ⟨M, hM⟩ : ∃ M, M = fv x0 * (p : Int) := ⟨_, rfl⟩
  have m1 : 0 ≤ M := by rw [hM]; exact Int.mul_nonneg a1 (by omega)
  have m2 : M ≤ 4611686018427387904 := by
    rw [hM]
    have := Int.mul_le_mul (show fv x0 ≤ 2147483647 by omega) (show (p : Int) ≤ 2147483647 by omega) (by omega) (by omega)
    omega
  have HR := Lib.hid (show PlaceIs (p := p) k c s D n w (.returned (vi ((M + fv x1) % n))) w3 from ⟨by unfold placeV; rw [e0, e1, hM], hc3, hg3⟩)
  have HFD := Lib.hid (fun a => sfield_s s b k z oo (w3.drewN a) (hG3.below (below_drewN (Below.refl _ _) a) (block_lt_of_cell hG3.c0)))
  have HPP := Lib.hid (fun a => p_any p b (w3.drewN a) (by exact hF3.c0))
  have w1 : IntKind.i64.wrap (fv x0 * (p : Int)) = M := by rw [← hM]; exact IntWalk.i64_in _ (by omega)
  have w2 : IntKind.i64.wrap (M + fv x1) = M + fv x1 := IntWalk.i64_in _ (by omega)
  have nz : ¬ n = 0 := by omega
  have tm : (M + fv x1).tmod n = (M + fv x1) % n := Int.tmod_eq_emod_of_nonneg (by omega)
  clear hM hx0 hx1 e0 e1 hc3 hg3 hbc hF3 hG3 h1 h2 h3 h4 h5 h6 h7 h8
  go_wp2
  go_quiet ((first | (go_at_call 35; exact quiet_eq (HFD.out _)) | (go_at_call 26; exact quiet_eq (HPP.out _))))
  go_wp2
  go_ret
  obtain ⟨r1, r2, r3⟩ := HR.out
  exact ⟨r1, r2, ⟨r3.os, r3.tape, r3.output, r3.size, r3.block⟩⟩
/-- a chain after some draws; what was drawn -/
def iterD (p k : Nat) [NeZero p] (D : List Int) : Nat → List Int
  | 0 => D
  | n + 1 => drawnL p k (iterD p k D n)
def drawsL (p k : Nat) [NeZero p] (D : List Int) (n : Nat) : List Int := (List.range n).map fun i => (iterD p k D (i + 1)).getD 0 0
theorem drawsL_succ (p k : Nat) [NeZero p] (D : List Int) (n : Nat) : drawsL p k D (n + 1) = drawsL p k D n ++ [(iterD p k D (n + 1)).getD 0 0] := by simp [drawsL, List.range_succ]
def DrawsIs {p : Nat} [NeZero p] (k c s : Nat) (D : List Int) (n : Nat) (w : World) (e : Ending) (w' : World) : Prop :=
  ∃ v, e = .returned v ∧ Own w' w.heap.size v (drawsL p k D n) ∧ Chn w' c s (iterD p k D n) ∧ w.grownBy w' (some c)
set_option maxRecDepth 100000 in
theorem chdraws_no (c : Nat) (n : Int) (hn : I64 n) (h : n < 1 ∨ 65536 < n) (w : World) :
    Calls Tryd.prog 21 #[.pointer (some ⟨c, 0, none⟩), vi n] w fun e w' => e = .returned (.slice none 0 0) ∧ w = w' := by
  obtain ⟨h1, h2⟩ := hn
  rcases h with h | h
  · go_enter Tryd.func21, Tryd.ntmps21
    go_wp2
    go_ret
    exact ⟨rfl, rfl⟩
  · have h3 : 1 ≤ n := by omega
    go_enter Tryd.func21, Tryd.ntmps21
    go_wp2
    go_ret
    exact ⟨rfl, rfl⟩
def DrawsRel {p : Nat} [NeZero p] (k c s : Nat) (D : List Int) (w : World) (N : Nat) (v t : Value) (wr : World) : Prop :=
  ∃ i : Nat, i ≤ N ∧ t = vi i ∧ v = .slice (some ⟨w.heap.size, 0, none⟩) i N ∧ Own wr w.heap.size (.slice (some ⟨w.heap.size, 0, none⟩) i N) (drawsL p k D i) ∧ Chn wr c s (iterD p k D i) ∧ w.grownBy wr (some c)
theorem grown_two {a b d : World} {c g : Nat} (h : a.grownBy b (some c)) (h' : b.grownBy d (some g)) (hg : a.heap.size ≤ g) : a.grownBy d (some c) :=
  ⟨h'.os.trans h.os, h'.tape.trans h.tape, h'.output.trans h.output, Nat.le_trans h.size h'.size, fun k hk hne => (h'.block k (Nat.lt_of_lt_of_le hk h.size) (by intro e; injection e with e; omega)).trans (h.block k hk hne)⟩
set_option maxRecDepth 100000 in
set_option maxHeartbeats 4000000 in
theorem chdraws_any (p S b s k z c : Nat) [NeZero p] (oo : Nat → Nat → Fin p) (D : List Int) (n : Nat) (hn1 : 1 ≤ n) (hn2 : n ≤ 65536) (w : World) (F : Fld w S b p) (G : Spg w s b k z oo) (hS : S ≤ c) (hsc : s < c) (hC : Chn w c s D) :
    Calls Tryd.prog 21 #[.pointer (some ⟨c, 0, none⟩), vi n] w fun e w' => DrawsIs (p := p) k c s D n w e w' := by
  have HD := Lib.hid (fun D (W : World) (F : Fld W S b p) (G : Spg W s b k z oo) hC => chdraw_any p S b s k z c oo D W F G hS hsc hC)
  have HF := Lib.hid F
  have HG := Lib.hid G
  have hcw := hC.lt
  have hmk := make_ints0 n (by omega)
  have hO0 := own_made0 w w.heap.size n (Nat.le_refl _) (by omega)
  have hb0 : Below w.heap.size w (w.alloc (.cells (zeros n) 3)) := (Below.refl _ _).alloc (Nat.le_refl _) _
  have hC0 := hC.below hb0
  have hg0 := grown_of_below hb0 (some c)
  clear F G hC
  go_enter Tryd.func21, Tryd.ntmps21
  go_wp2
  generalize World.alloc _ _ = W0 at hO0 hb0 hC0 hg0
  clear hmk hb0
  go_loopw [5, 15] (fun v t wr => DrawsRel (p := p) k c s D w n v t wr) (fun _ t _ => n - (intOf t).toNat)
  case atStart => exact ⟨0, by omega, rfl, rfl, hO0, hC0, hg0⟩
  case round =>
    clear hO0 hC0 hg0
    obtain ⟨i, hi, rfl, rfl, ho, hc, hg⟩ := hrel
    by_cases hin : i < n
    · have hbc : Below c w wr := (Below.refl c w).grown hg (by omega) (fun k hk => by injection hk with hk; omega)
      have hd := Lib.hid (HD.out _ wr (HF.out.below hbc hS) (HG.out.below hbc hsc) hc)
      have HO := Lib.hid ho
      have HGR := Lib.hid hg
      have i1 : (0 : Int) ≤ (i : Int) := by omega
      have i2 : (i : Int) < (n : Int) := by omega
      have hwl := (World.ownsRow.lt ho w.heap.size rfl).2
      clear hbc hc ho hg
      go_wp2_with fail
      refine (hd.out).mono ?_
      rintro _ w2 ⟨rfl, hc2, hg2, hn2⟩
      have ho2 := HO.out.grown hg2 (.inr (by intro e; have e3 : w.heap.size = c := by { injection e }; omega))
      have hgw2 := grownBy_trans HGR.out hg2
      obtain ⟨X, hX⟩ : ∃ X, X = (drawnL p k (iterD p k D i)).getD 0 0 := ⟨_, rfl⟩
      have hsu := drawsL_succ p k D i
      rw [show iterD p k D (i + 1) = drawnL p k (iterD p k D i) from rfl, ← hX] at hsu
      rw [← hX]
      have hlk : i = (drawsL p k D i).length := by simp [drawsL]
      have HLK := Lib.hid hlk
      have HSU := Lib.hid hsu
      have HC2 := Lib.hid hc2
      have HG2 := Lib.hid hgw2
      have HN2 := Lib.hid (hn2.ne hwl)
      have HO2 := Lib.hid ho2
      clear hlk hsu hX hc2 hg2 hgw2 hn2 ho2
      go_wp2_with (at_builtin; refine wpList_app1_fits w2 X rfl _ _ rfl w.heap.size w.heap.size i n _ rfl rfl HO2.out HLK.out hin ?_; intro w3 ho3 hg3)
      rw [← HSU.out] at ho3
      have hc3 : Chn w3 c s (iterD p k D (i + 1)) := Chn.keepX (show Chn w2 c s (iterD p k D (i + 1)) from HC2.out) hg3 (by omega) HN2.out
      exact ⟨⟨i + 1, by omega, by go_num, rfl, ho3, hc3, grown_two HG2.out hg3 (Nat.le_refl _)⟩, by simp [intOf]; omega⟩
    · have ei : i = n := by omega
      subst ei
      go_wp2
      go_ret
      exact ⟨_, rfl, ho, hc, hg⟩
theorem own_blk {w : World} {base g n cap : Nat} {xs : List Int} (h : Own w base (.slice (some ⟨g, 0, none⟩) n cap) xs) : ∃ cs, Blk w g 3 cs := by
  rcases h.2 with ⟨e, _⟩ | ⟨g', cap', cur, e, _, hh, _⟩
  · cases e
  · injection e with e _ _
    injection e with e
    injection e with e _ _
    subst e
    exact ⟨cur, hh⟩
def ForkIs (s : Nat) (D : List Int) (w : World) (e : Ending) (w' : World) : Prop := ∃ d : Nat, e = .returned (.pointer (some ⟨d, 0, none⟩)) ∧ Chn w' d s D ∧ w.heap.size ≤ d ∧ Below w.heap.size w w'
set_option maxRecDepth 100000 in
set_option maxHeartbeats 4000000 in
theorem chfork_any (c s : Nat) (D : List Int) (w : World) (hC : Chn w c s D) :
    Calls Tryd.prog 7 #[.pointer (some ⟨c, 0, none⟩)] w fun e w' => ForkIs s D w e w' := by
  have hcw := hC.lt
  obtain ⟨g, cg, t, cs, h1, h2, h3, h4, h5, h6, h7, h8⟩ := hC
  have hc0 : w.cell? ⟨c, 0, none⟩ = some (.pointer (some ⟨s, 0, none⟩)) := (Blk.cell h1 0).trans rfl
  have hc1 : w.cell? ⟨c, 1, none⟩ = some (.slice (some ⟨g, 0, none⟩) 4 cg) := (Blk.cell h1 1).trans rfl
  have HC := Lib.hid (fun W hs => clone_any (some ⟨g, 0, none⟩) 4 cg D h5 (by omega) W hs)
  have HS := Lib.hid (show SL w.drew (some ⟨g, 0, none⟩) D from h4)
  have H5 := Lib.hid h5
  have H8 := Lib.hid h8
  clear h1 h2 h3 h4 h5 h6 h7 h8
  go_enter Tryd.func7, Tryd.ntmps7
  go_wp2_with fail
  go_region_held3 (fun w' => w'.cell? ⟨c, 0, none⟩ = some (.pointer (some ⟨s, 0, none⟩)) ∧ w'.cell? ⟨c, 1, none⟩ = some (.slice (some ⟨g, 0, none⟩) 4 cg)) (first | exact ⟨hc0, hc1⟩ | exact ⟨(hb2.cell (p := ⟨c, 0, none⟩) hcw).trans hc0, (hb2.cell (p := ⟨c, 1, none⟩) hcw).trans hc1⟩ | go_keep) ((first
    | (go_at_call 17; refine (HC.out _ HS.out).mono ?_; rintro _ w2 ⟨v2, rfl, ho2, hb2'⟩; have hb2 : Below w.heap.size w w2 := ⟨hb2'.os, hb2'.tape, hb2'.output, hb2'.size, hb2'.block⟩; clear hb2'; have hblk := ho2.block (by rw [H5.out]; omega); rw [H5.out] at hblk; obtain ⟨g2, c2, rfl, hg21, hg22⟩ := hblk)))
  have hfk : ForkIs s D w (.returned (.pointer (some ⟨w2.heap.size, 0, none⟩))) (w2.alloc (.cells #[.pointer (some ⟨s, 0, none⟩), .slice (some ⟨g2, 0, none⟩) 4 c2] 52)) := by
    have hbA : Below w2.heap.size w2 (w2.alloc (.cells #[.pointer (some ⟨s, 0, none⟩), .slice (some ⟨g2, 0, none⟩) 4 c2] 52)) := (Below.refl _ _).alloc (Nat.le_refl _) _
    obtain ⟨cs2, hcs2⟩ := own_blk ho2
    obtain ⟨A', n', c', ev, hl', hc', hm', hs'⟩ := ho2.shapeN
    injection ev with ev1 ev2 ev3
    subst ev1 ev2 ev3
    refine ⟨w2.heap.size, rfl, ⟨g2, c2, _, cs2, Blk.new _ _ _, hcs2.alloc _, .inl rfl, hs'.below hbA, H5.out, hc', hm', H8.out⟩, hb2.size, hb2.trans (hbA.mono hb2.size)⟩
  have HFK := Lib.hid hfk
  clear hfk ho2
  go_wp2
  go_ret
  exact HFK.out
def DigestIs (D : List Int) (w : World) (e : Ending) (w' : World) : Prop := Made D w e w'
theorem chdigest_any (c s : Nat) (D : List Int) (w : World) (hC : Chn w c s D) :
    Calls Tryd.prog 9 #[.pointer (some ⟨c, 0, none⟩)] w fun e w' => Made D w e w' := by
  obtain ⟨g, cg, t, cs, h1, h2, h3, h4, h5, h6, h7, h8⟩ := hC
  have hc1 : w.cell? ⟨c, 1, none⟩ = some (.slice (some ⟨g, 0, none⟩) 4 cg) := (Blk.cell h1 1).trans rfl
  have HC := Lib.hid (clone_any (some ⟨g, 0, none⟩) 4 cg D h5 (by omega) w h4)
  clear h1 h2 h3 h4 h5 h6 h7 h8
  go_enter Tryd.func9, Tryd.ntmps9
  go_wp2_with fail
  refine (HC.out).mono ?_
  rintro _ w2 ⟨v2, rfl, ho2, hb2⟩
  go_wp2
  go_ret
  exact ⟨_, rfl, ho2, hb2⟩
end Go.Proofs.YtijhajkakmohnaaDoor

/- The walks of the reference's chains: Step, Begin, Draw, Place. -/
set_option linter.unusedVariables false
namespace Go.Proofs.YtijhajkakmohnaaDoor
open Go.RowKit Zp

/-- the reference's object of a chain -/
def RO (w : World) (m : Nat) (p : Int) (v : Value) : Prop := Blk w m 37 #[vi p, v]
/-- the reference's chain, by its digest -/
def RCh (w : World) (m : Nat) (p : Int) (D : List Int) : Prop :=
  ∃ (g cap : Nat) (cs : Array Value), RO w m p (.slice (some ⟨g, 0, none⟩) 4 cap) ∧ Blk w g 3 cs ∧ SL w (some ⟨g, 0, none⟩) D ∧ D.length = 4 ∧ 4 ≤ cap ∧ cap ≤ maxLen ∧ ∀ x ∈ D, I64 x
theorem RCh.lt {w : World} {m : Nat} {p : Int} {D : List Int} (h : RCh w m p D) : m < w.heap.size := by
  obtain ⟨g, cap, cs, h1, _⟩ := h
  exact Blk.lt h1
theorem RCh.below {w w' : World} {m : Nat} {p : Int} {D : List Int} (h : RCh w m p D) (hb : Below w.heap.size w w') : RCh w' m p D := by
  obtain ⟨g, cap, cs, h1, h2, h3, h4, h5, h6, h7⟩ := h
  exact ⟨g, cap, cs, Blk.below h1 hb (Blk.lt h1), h2.below hb h2.lt, h3.below hb, h4, h5, h6, h7⟩
/-- kept while another block, of another type than ints, is turned -/
theorem RCh.far {w w' : World} {m x : Nat} {p : Int} {D : List Int} {t : TypeId} {cx : Array Value} (h : RCh w m p D) (hx : Blk w x t cx) (ht : t ≠ 3) (hg : w.grownBy w' (some x)) (hne : m ≠ x) : RCh w' m p D := by
  obtain ⟨g, cap, cs, h1, h2, h3, h4, h5, h6, h7⟩ := h
  have hgx : g ≠ x := Blk.ne_ h2 hx (fun e => ht e.symm)
  exact ⟨g, cap, cs, Blk.grown h1 hg (by intro e; injection e with e; exact hne e), h2.grown hg (by intro e; injection e with e; exact hgx e), h3.far hg hgx, h4, h5, h6, h7⟩
/-- kept while other blocks are turned -/
theorem RCh.keepR {w w' : World} {m : Nat} {p : Int} {D : List Int} {row : Option Nat} (h : RCh w m p D) (hg : w.grownBy w' row) (hm : row ≠ some m) (hd : ∀ g cap, w.cell? ⟨m, 1, none⟩ = some (.slice (some ⟨g, 0, none⟩) 4 cap) → row ≠ some g) : RCh w' m p D := by
  obtain ⟨g, cap, cs, h1, h2, h3, h4, h5, h6, h7⟩ := h
  have hgx := hd g cap ((Blk.cell h1 1).trans rfl)
  refine ⟨g, cap, cs, Blk.grown h1 hg (fun e => hm e.symm), h2.grown hg (fun e => hgx e.symm), ?_, h4, h5, h6, h7⟩
  refine ⟨h3.1, fun hn => ?_⟩
  obtain ⟨ad, e, hb, hc⟩ := h3.2 hn
  injection e with e
  subst e
  exact ⟨_, rfl, Nat.lt_of_lt_of_le hb hg.size, fun j u hu => (World.cell?_of_block (by rw [block_of_add]; exact hg.block g h2.lt (fun e => hgx e.symm))).trans (hc j u hu)⟩
theorem grown_any {a b d : World} {c : Nat} {row : Option Nat} (h : a.grownBy b (some c)) (h' : b.grownBy d row) (hg : ∀ g, row = some g → a.heap.size ≤ g) : a.grownBy d (some c) :=
  ⟨h'.os.trans h.os, h'.tape.trans h.tape, h'.output.trans h.output, Nat.le_trans h.size h'.size, fun x hx hne => (h'.block x (Nat.lt_of_lt_of_le hx h.size) (fun e => by have := hg x e.symm; omega)).trans (h.block x hx hne)⟩
/-- what is left of a step -/
def RStepIs (m : Nat) (p : Int) (D : List Int) (w : World) (e : Ending) (w' : World) : Prop := (∃ r, e = .returned r) ∧ RCh w' m p D ∧ w.grownBy w' (some m) ∧ DigNew w' m w.heap.size
structure Pk (p k : Nat) : Prop where
  p3 : 3 ≤ p
  pm : p ≤ 2147483647
  k2 : 2 ≤ k
  kp : k < p
  least : ∀ j, 2 ≤ j → j < k → Nat.gcd j (p - 1) ≠ 1
  cop : Nat.gcd k (p - 1) = 1
set_option maxRecDepth 100000 in
set_option maxHeartbeats 2000000 in
theorem rstep_core (p k : Nat) [NeZero p] (K : Pk p k) (kind : Int) (hki : I64 kind) (m : Nat) (A : Option Addr) (nA cA : Nat) (D : List Int) (hD : D.length = nA) (hD4 : nA ≤ 4) (hDI : ∀ x ∈ D, I64 x) (B : Option Addr) (n cB : Nat) (l : List Int) (hl : l.length = n) (hlI : ∀ x ∈ l, I64 x) (hr : n * 8 ≤ 140737488351232) (w : World) (hm : RO w m p (.slice A nA cA)) (hsD : SL w A D) (hsl : SL w B l) :
    Calls Tryd.prog 16 #[.pointer (some ⟨m, 0, none⟩), vi kind, .slice B n cB] w fun e w' => RStepIs m p (digL p k (kind :: (D ++ l))) w e w' := by
  have hml := Blk.lt hm
  have hba : Below w.heap.size w (w.alloc (.cells #[vi kind] 3)) := (Below.refl _ _).alloc (Nat.le_refl _) _
  have ho1 : Own (w.alloc (.cells #[vi kind] 3)) w.heap.size (.slice (some ⟨w.heap.size, 0, none⟩) 1 1) [kind] := own_lit w w.heap.size [kind] (Nat.le_refl _) (by simp [maxLen])
  obtain ⟨W, hW⟩ : ∃ W, W = w.alloc (.cells #[vi kind] 3) := ⟨_, rfl⟩
  obtain ⟨b0, hb0⟩ : ∃ b0, b0 = w.heap.size := ⟨_, rfl⟩
  rw [← hW, ← hb0] at ho1
  rw [← hW] at hba
  have hWs : b0 < W.heap.size := by rw [hW, hb0]; simp
  have hmW := Blk.below hm hba hml
  have hm1 := (Blk.cell hmW 1).trans (show _ = some (Value.slice A nA cA) from rfl)
  have HSD := Lib.hid (hsD.below hba)
  have HSL := Lib.hid hsl
  have HMM := Lib.hid hm
  have HDL := Lib.hid hD
  have HLL := Lib.hid hl
  have HMW := Lib.hid hmW
  have HBA := Lib.hid hba
  have HH := Lib.hid (fun A n c (L : List Int) (h1 : L.length = n) h2 h3 W hs => rhash_dig p k K.p3 K.pm K.k2 K.kp K.least K.cop A n c L h1 h2 h3 W hs)
  have hI : ∀ x ∈ [kind] ++ D ++ l, I64 x := fun x hx => by
    simp at hx
    rcases hx with rfl | hx | hx
    · exact hki
    · exact hDI x hx
    · exact hlI x hx
  have HI := Lib.hid hI
  have HW := Lib.hid hW
  have HB0 := Lib.hid hb0
  have hWle : b0 ≤ W.heap.size := Nat.le_of_lt hWs
  clear hba hD hl hI hmW hm hsD hsl hW hb0 hDI hlI
  go_enter Tryd.func16, Tryd.ntmps16
  go_upto_region 1 with (fail)
  rw [← HW.out, ← HB0.out]
  go_wp2_with (first
    | (at_builtin; refine wpList_appA W rfl _ _ rfl b0 _ [kind] A nA cA D rfl rfl HDL.out ho1 HSD.out (by simp; omega) hWle ?_; intro v2 w2 hg2; have ho2 := hg2.own; have hb2 : Below w.heap.size w w2 := hg2.below HBA.out ho1 (by rw [HB0.out]; exact Nat.le_refl _) HBA.out.size; have hsl2 := HSL.out.below hb2; have hl2 : b0 ≤ w2.heap.size := (by rw [HB0.out]; exact hb2.size); have hmx : ([kind] ++ D).length + n ≤ 17592186044416 := (by simp [HDL.out]; omega); clear hg2)
    | (at_builtin; refine wpList_appA w2 rfl _ _ rfl b0 _ ([kind] ++ D) B n cB l rfl rfl HLL.out ho2 hsl2 hmx hl2 ?_; intro v3 w3 hg3; have ho3 := hg3.own; have hb3 : Below w.heap.size w w3 := hg3.below hb2 ho2 (by rw [HB0.out]; exact Nat.le_refl _) hb2.size; clear hg3; obtain ⟨A3, n3, c3, rfl, hl3, hc3, _, hs3⟩ := ho3.shapeN; have hm3 := Blk.below HMM.out hb3 hml; have cm0 := (Blk.cell hm3 0).trans (show _ = some (vi p) from rfl); have cm1 := (Blk.cell hm3 1).trans (show _ = some (Value.slice A nA cA) from rfl); have fm1 := Blk.frozen hm3 1))
  have hn3 : n3 = 1 + nA + n := by
    rw [← hl3]
    simp [HDL.out, HLL.out]
    omega
  have hh := HH.out A3 n3 c3 _ hl3 HI.out (by omega) w3 hs3
  have HHH := Lib.hid hh
  have HM3 := Lib.hid hm3
  have HB3 := Lib.hid hb3
  have hml3 := Blk.lt hm3
  clear hh hl3 hs3 ho3 hm3 hb3 hn3 ho2 hb2 hsl2 hl2 hmx
  refine (HHH.out).mono ?_
  rintro e w4 ⟨g, cap, cs, rfl, hcap, hcm, hsg, hbg, hgn, hb4⟩
  have hm4 := Blk.below HM3.out hb4 hml3
  have d1 := (Blk.cell hm4 1).trans (show _ = some (Value.slice A nA cA) from rfl)
  have f1 := Blk.frozen hm4 1
  have hset := Blk.set_ hm4 1 (.slice (some ⟨g, 0, none⟩) 4 cap)
  have hgm : g ≠ m := by omega
  have hbg' := hbg.far (p := ⟨m, 1, none⟩) hgm (.slice (some ⟨g, 0, none⟩) 4 cap)
  have hgr4 : w4.grownBy (w4.setCell ⟨m, 1, none⟩ (.slice (some ⟨g, 0, none⟩) 4 cap)) (some m) := ⟨rfl, rfl, rfl, by rw [World.size_setCell]; exact Nat.le_refl _, fun x hx hne => Below.heap_setCell w4 _ _ x (fun e => hne (by rw [e]))⟩
  have hsg' := hsg.far hgr4 hgm
  have hfin : RStepIs m p (digL p k (kind :: (D ++ l))) w (.returned undef) (w4.setCell ⟨m, 1, none⟩ (.slice (some ⟨g, 0, none⟩) 4 cap)) := by
    refine ⟨⟨_, rfl⟩, ⟨g, cap, cs, hset, hbg', ?_, digL_len _ _, hcap, hcm, i64_digL K.pm _⟩, ?_⟩
    · simpa using hsg'
    · have h := HB3.out.trans (hb4.mono HB3.out.size)
      refine ⟨⟨hgr4.os.trans h.os, hgr4.tape.trans h.tape, hgr4.output.trans h.output, Nat.le_trans h.size hgr4.size, fun x hx hne => (hgr4.block x (Nat.lt_of_lt_of_le hx h.size) hne).trans (h.block x hx)⟩, g, cap, (Blk.cell hset 1).trans rfl, Nat.le_trans HB3.out.size hgn⟩
  have HFIN := Lib.hid hfin
  clear hfin hset hbg' hgr4 hsg' hm4 hbg hsg
  go_wp2
  go_end0
  exact ⟨⟨_, rfl⟩, HFIN.out.2⟩
theorem rstep_any (p k : Nat) [NeZero p] (K : Pk p k) (kind : Int) (hki : I64 kind) (m : Nat) (D : List Int) (B : Option Addr) (n cB : Nat) (l : List Int) (hl : l.length = n) (hlI : ∀ x ∈ l, I64 x) (hr : n * 8 ≤ 140737488351232) (w : World) (hm : RCh w m p D) (hsl : SL w B l) :
    Calls Tryd.prog 16 #[.pointer (some ⟨m, 0, none⟩), vi kind, .slice B n cB] w fun e w' => RStepIs m p (digL p k (kind :: (D ++ l))) w e w' := by
  obtain ⟨g, cap, cs, h1, h2, h3, h4, h5, h6, h7⟩ := hm
  exact rstep_core p k K kind hki m _ 4 cap D h4 (Nat.le_refl _) h7 B n cB l hl hlI hr w h1 h3 hsl
set_option maxRecDepth 100000 in
set_option maxHeartbeats 2000000 in
theorem rbegin_any (p k : Nat) [NeZero p] (K : Pk p k) (B : Option Addr) (n cB : Nat) (l : List Int) (hl : l.length = n) (hlI : ∀ x ∈ l, I64 x) (hr : n * 8 ≤ 140737488351232) (w : World) (hsl : SL w B l) :
    Calls Tryd.prog 6 #[vi p, .slice B n cB] w fun e w' => e = .returned (.pointer (some ⟨w.heap.size, 0, none⟩)) ∧ RCh w' w.heap.size p (digL p k (2 :: l)) ∧ Below w.heap.size w w' := by
  have hba : Below w.heap.size w (w.alloc (.cells #[vi p, .slice none 0 0] 37)) := (Below.refl _ _).alloc (Nat.le_refl _) _
  have hO : RO (w.alloc (.cells #[vi p, .slice none 0 0] 37)) w.heap.size p (.slice none 0 0) := Blk.new w _ _
  have HS := Lib.hid (rstep_core p k K 2 ⟨by omega, by omega⟩ w.heap.size none 0 0 [] rfl (by omega) (by simp) B n cB l hl hlI hr _ hO SL.nil (hsl.below hba))
  have HB := Lib.hid hba
  clear hl hlI hO hba hsl K
  go_enter Tryd.func6, Tryd.ntmps6
  go_wp2_with fail
  refine (HS.out).mono ?_
  rintro e w2 ⟨⟨r, rfl⟩, hc, hg, hnew⟩
  have HC := Lib.hid hc
  have HG := Lib.hid (HB.out.grown hg HB.out.size (fun x hx => by injection hx with hx; omega))
  clear hc hg hnew
  go_wp2
  go_ret
  exact ⟨rfl, HC.out, HG.out⟩
def RDrawIs {p : Nat} [NeZero p] (k m : Nat) (D : List Int) (w : World) (e : Ending) (w' : World) : Prop := e = .returned (vi ((drawnL p k D).getD 0 0)) ∧ RCh w' m p (drawnL p k D) ∧ w.grownBy w' (some m) ∧ DigNew w' m w.heap.size
theorem RCh.dig {w : World} {m : Nat} {p : Int} {D : List Int} (h : RCh w m p D) : ∃ g cap, w.cell? ⟨m, 0, none⟩ = some (vi p) ∧ w.cell? ⟨m, 1, none⟩ = some (.slice (some ⟨g, 0, none⟩) 4 cap) ∧ w.cell? ⟨g, 0, none⟩ = some (vi (D.getD 0 0)) ∧ w.cell? ⟨g, 1, none⟩ = some (vi (D.getD 1 0)) := by
  obtain ⟨g, cap, cs, h1, h2, h3, h4, h5, h6, h7⟩ := h
  refine ⟨g, cap, (Blk.cell h1 0).trans rfl, (Blk.cell h1 1).trans rfl, ?_, ?_⟩
  · obtain ⟨ad, ea, _, hc⟩ := SL.at_ (k := 0) h3 (by rw [h4]; omega)
    injection ea with ea
    subst ea
    rw [Addr.add_mid] at hc
    rw [List.getD_eq_getElem?_getD, List.getElem?_eq_getElem (by omega), Option.getD_some]
    exact hc
  · obtain ⟨ad, ea, _, hc⟩ := SL.at_ (k := 1) h3 (by rw [h4]; omega)
    injection ea with ea
    subst ea
    rw [Addr.add_mid] at hc
    rw [List.getD_eq_getElem?_getD, List.getElem?_eq_getElem (by omega), Option.getD_some]
    exact hc
set_option maxRecDepth 100000 in
set_option maxHeartbeats 2000000 in
theorem rdraw_any (p k : Nat) [NeZero p] (K : Pk p k) (m : Nat) (D : List Int) (w : World) (hm : RCh w m p D) :
    Calls Tryd.prog 20 #[.pointer (some ⟨m, 0, none⟩)] w fun e w' => RDrawIs (p := p) k m D w e w' := by
  have hs := rstep_any p k K 4 ⟨by omega, by omega⟩ m D none 0 0 [] rfl (by simp) (by omega) w hm SL.nil
  rw [List.append_nil] at hs
  have HS := Lib.hid hs
  clear hs hm K
  go_enter Tryd.func20, Tryd.ntmps20
  go_wp2_with fail
  refine (HS.out).mono ?_
  rintro e w2 ⟨⟨r, rfl⟩, hc, hg, hnew⟩
  obtain ⟨g, cap, d0, d1, d2, d3⟩ := hc.dig
  have HC := Lib.hid hc
  have HG := Lib.hid hg
  have HR := Lib.hid (show RDrawIs (p := p) k m D w (.returned (vi ((digL p k (4 :: D)).getD 0 0))) w2 from ⟨rfl, hc, hg, hnew⟩)
  generalize (digL p k (4 :: D)).getD 0 0 = X at d2 HR
  clear hc hg d3 hnew
  go_wp2
  go_ret
  exact HR.out
def RPlaceIs {p : Nat} [NeZero p] (k m : Nat) (D : List Int) (n : Int) (w : World) (e : Ending) (w' : World) : Prop := e = .returned (vi (placeV p (drawnL p k D) n)) ∧ RCh w' m p (drawnL p k D) ∧ w.grownBy w' (some m)
theorem rplace_no (m : Nat) (n : Int) (hn : I64 n) (h : n < 1 ∨ 65536 < n) (w : World) :
    Calls Tryd.prog 23 #[.pointer (some ⟨m, 0, none⟩), vi n] w fun e w' => e = .returned (vi 0) ∧ w = w' := by
  obtain ⟨h1, h2⟩ := hn
  rcases h with h | h
  · go_enter Tryd.func23, Tryd.ntmps23
    go_wp2
    go_ret
    exact ⟨rfl, rfl⟩
  · have h3 : 1 ≤ n := by omega
    go_enter Tryd.func23, Tryd.ntmps23
    go_wp2
    go_ret
    exact ⟨rfl, rfl⟩
set_option maxRecDepth 100000 in
set_option maxHeartbeats 2000000 in
theorem rplace_any (p k : Nat) [NeZero p] (K : Pk p k) (m : Nat) (D : List Int) (n : Int) (hn1 : 1 ≤ n) (hn2 : n ≤ 65536) (w : World) (hm : RCh w m p D) :
    Calls Tryd.prog 23 #[.pointer (some ⟨m, 0, none⟩), vi n] w fun e w' => RPlaceIs (p := p) k m D n w e w' := by
  have hs := rstep_any p k K 4 ⟨by omega, by omega⟩ m D none 0 0 [] rfl (by simp) (by omega) w hm SL.nil
  rw [List.append_nil] at hs
  have HS := Lib.hid hs
  have hpm := K.pm
  clear hs hm K
  go_enter Tryd.func23, Tryd.ntmps23
  go_wp2_with fail
  refine (HS.out).mono ?_
  rintro e w2 ⟨⟨r, rfl⟩, hc, hg, hnew⟩
  obtain ⟨g, cap, d0, d1, d2, d3⟩ := hc.dig
  obtain ⟨x0, hx0⟩ := digL_bounds (p := p) (k := k) (4 :: D) (show 0 < 4 by omega)
  obtain ⟨x1, hx1⟩ := digL_bounds (p := p) (k := k) (4 :: D) (show 1 < 4 by omega)
  rw [hx0] at d2
  rw [hx1] at d3
  have a1 := fv_nonneg x0
  have a2 := fv_lt x0
  have b1 := fv_nonneg x1
  have b2 := fv_lt x1
  obtain ⟨M, hM⟩ : ∃ M, M = fv x0 * (p : Int) := ⟨_, rfl⟩
  have m1 : 0 ≤ M := by rw [hM]; exact Int.mul_nonneg a1 (by omega)
  have m2 : M ≤ 4611686018427387904 := by
    rw [hM]
    have := Int.mul_le_mul (show fv x0 ≤ 2147483647 by omega) (show (p : Int) ≤ 2147483647 by omega) (by omega) (by omega)
    omega
  have HR := Lib.hid (show RPlaceIs (p := p) k m D n w (.returned (vi ((M + fv x1) % n))) w2 from ⟨by unfold placeV; rw [show drawnL p k D = digL p k (4 :: D) from rfl, hx0, hx1, hM], hc, hg⟩)
  have w1 : IntKind.i64.wrap (fv x0 * (p : Int)) = M := by rw [← hM]; exact IntWalk.i64_in _ (by omega)
  have w2' : IntKind.i64.wrap (M + fv x1) = M + fv x1 := IntWalk.i64_in _ (by omega)
  have nz : ¬ n = 0 := by omega
  have tm : (M + fv x1).tmod n = (M + fv x1) % n := Int.tmod_eq_emod_of_nonneg (by omega)
  clear hM hx0 hx1 hc hg hnew
  go_wp2
  go_quiet (fail)
  go_wp2
  go_ret
  obtain ⟨r1, r2, r3⟩ := HR.out
  exact ⟨r1, r2, ⟨r3.os, r3.tape, r3.output, r3.size, r3.block⟩⟩
end Go.Proofs.YtijhajkakmohnaaDoor

/- Walks: the reference's Order, Generator, Root. -/
set_option linter.unusedVariables false
namespace Go.Proofs.YtijhajkakmohnaaDoor
open Go.RowKit Zp



end Go.Proofs.YtijhajkakmohnaaDoor

/- Walks of the reference's domains: Fault, New; law2.made. -/
set_option linter.unusedVariables false
namespace Go.Proofs.YtijhajkakmohnaaDoor
open Go.RowKit Zp

/-- the fault of a domain by its number -/
noncomputable def faultI (q : Nat) (size t : Int) : Int := open Classical in if ∃ n : Nat, size = n ∧ SizeOk q n then (if t % (q : Int) = 0 then 3 else 0) else 2
theorem faultI_size {q : Nat} {size t : Int} (h : ¬ ∃ n : Nat, size = n ∧ SizeOk q n) : faultI q size t = 2 := by unfold faultI; rw [if_neg h]
theorem faultI_shift {q n : Nat} {t : Int} (h : SizeOk q n) (h0 : t % (q : Int) = 0) : faultI q n t = 3 := by unfold faultI; rw [if_pos ⟨n, rfl, h⟩, if_pos h0]
theorem faultI_ok {q n : Nat} {t : Int} (h : SizeOk q n) (h0 : ¬ t % (q : Int) = 0) : faultI q n t = 0 := by unfold faultI; rw [if_pos ⟨n, rfl, h⟩, if_neg h0]


/-- a reference's domain -/
abbrev RDom (q n : Nat) (s r : Int) : Value := .agg #[vi q, vi n, vi s, vi r]

end Go.Proofs.YtijhajkakmohnaaDoor

/- The walk of (*Domain).Values. -/
set_option linter.unusedVariables false
namespace Go.Proofs.YtijhajkakmohnaaDoor
open Go.RowKit Zp

/-- a root of a power of two: the half of its order makes -1 -/
theorem root_cond {p : Nat} [NeZero p] (hp : IsPrime p) {n : Nat} (h : SizeOk p n) {r : Fin p} (hr : Ord r n) : n = 1 ∨ ∃ m, n = 2 * m ∧ pw r m = -1 := by
  obtain ⟨⟨k, _, e⟩, _⟩ := h
  cases k with
  | zero => exact .inl e
  | succ k =>
    have e2 : n = 2 * 2 ^ k := by rw [e, Nat.pow_succ, Nat.mul_comm]
    rw [e2] at hr
    exact .inr ⟨2 ^ k, e2, ord_half hp (Nat.pow_pos (by omega)) hr⟩


/-- a slice of n ints that is read alone -/
def GivesN (n : Nat) (xs : List Int) (w : World) (e : Ending) (w' : World) : Prop := ∃ A c, xs.length = n ∧ e = .returned (.slice A n c) ∧ n ≤ c ∧ c ≤ maxLen ∧ SL w' A xs ∧ Below w.heap.size w w'
theorem Gives.n {xs : List Int} {w w' : World} {e : Ending} (h : Gives xs w e w') {n : Nat} (hn : xs.length = n) : GivesN n xs w e w' := by
  obtain ⟨A, c, h1, h2, h3, h4, h5⟩ := h
  subst hn
  exact ⟨A, c, rfl, h1, h2, h3, h4, h5⟩
theorem SL.co {p : Nat} [NeZero p] {w : World} {A : Option Addr} {l : List (Fin p)} (h : SL w A (fvs l)) {k : Nat} (hk : k < l.length) : ∃ ad, A = some ad ∧ w.cell? (ad.add k) = some (vi (fv (co l k))) := by
  obtain ⟨ad, h1, _, h2⟩ := h.at_ (k := k) (by simpa using hk)
  exact ⟨ad, h1, by rw [h2, co_of_lt hk, List.getElem_map]⟩
end Go.Proofs.YtijhajkakmohnaaDoor

/- Walks: attestlaw2's plain and lives. -/
set_option linter.unusedVariables false
namespace Go.Proofs.YtijhajkakmohnaaDoor
open Go.RowKit Zp

/-- is there a domain? -/
def HasDom (p size t : Int) : Prop := HasField p ∧ ∃ n : Nat, size = n ∧ SizeOk p.toNat n ∧ ¬ t % p = 0



/-- the parts of HasDom -/
theorem HasDom.parts {p size t : Int} (h : HasDom p size t) : ∃ q n : Nat, p = q ∧ size = n ∧ 3 ≤ q ∧ q ≤ 2147483647 ∧ IsPrime q ∧ SizeOk q n ∧ ¬ t % (q : Int) = 0 := by
  obtain ⟨⟨h3, hm, hpr⟩, n, rfl, hs, h0⟩ := h
  obtain ⟨q, rfl⟩ := Int.eq_ofNat_of_zero_le (a := p) (by omega)
  rw [Int.toNat_natCast] at hpr hs
  exact ⟨q, n, rfl, rfl, by omega, by omega, hpr, hs, h0⟩

/-- a list written out reads as it is -/
theorem sl_lit (w : World) (xs : List Int) : SL (w.alloc (.cells (xs.map vi).toArray 3)) (some ⟨w.heap.size, 0, none⟩) xs := by
  refine ⟨by simp, fun hn => ⟨_, rfl, by simp, fun j u hu => ?_⟩⟩
  have e : (⟨w.heap.size, 0, none⟩ : Addr).add j = ⟨w.heap.size, j, none⟩ := by simp [Addr.add]; intro h; exact h.symm
  rw [e, (Blk.new w 3 (xs.map vi).toArray).cell]
  simpa using hu

theorem size4 : SizeOk 17 4 := ⟨⟨2, by omega, rfl⟩, ⟨4, rfl⟩⟩
theorem root17 : rootI 17 ((4 : Nat) : Int) = el 17 13 := by
  rw [rootI_nat (by omega) (by decide) (by omega), gen17]
  decide
theorem vals17 : fvs (valL (el 17 3) (rootI 17 ((4 : Nat) : Int)) 4 (els 17 [1, 1])) = [4, 6, 15, 13] := by
  rw [root17]
  decide

theorem ints_n (A B : Option Addr) (n c m d : Nat) (xs ys : List Int) (hnx : xs.length = n) (hmy : ys.length = m) (hn : n ≤ 9223372036854775807) (hm : m ≤ 9223372036854775807) (w : World) (hsx : SL w A xs) (hsy : SL w B ys) :
    Calls Tryd.prog 10 #[.slice A n c, .slice B m d] w fun e w' => e = .returned (.bool (eqB xs ys)) ∧ ∃ k, w' = w.drewN k := by
  subst hnx hmy
  exact ints_any A B c d xs ys hn hm w hsx hsy
end Go.Proofs.YtijhajkakmohnaaDoor

/- Walk: law2.made. -/
set_option linter.unusedVariables false
namespace Go.Proofs.YtijhajkakmohnaaDoor
open Go.RowKit Zp

end Go.Proofs.YtijhajkakmohnaaDoor

/- Walks of the reference's polynomials: Degree, Trim, At, Plus, Scaled, Times, Eval. -/
set_option linter.unusedVariables false
namespace Go.Proofs.YtijhajkakmohnaaDoor
open Go.RowKit Zp

theorem i64_fvsR {p : Nat} (l : List (Fin p)) (hp2 : p ≤ 2147483647) : ∀ n ∈ fvs l, I64 n := fun n hn => by
  obtain ⟨x, _, rfl⟩ := List.mem_map.1 hn
  exact i64_fv x hp2
theorem sl_lit' (w : World) (xs : List Int) : SL (w.alloc (.cells (xs.map vi).toArray 3)) (some ⟨w.heap.size, 0, none⟩) xs := by
  refine ⟨by simp, fun _ => ⟨_, rfl, by simp, fun j u hu => ?_⟩⟩
  have e : (⟨w.heap.size, 0, none⟩ : Addr).add j = ⟨w.heap.size, j, none⟩ := by simp [Addr.add]; intro h; exact h.symm
  rw [e, (Blk.new w 3 (xs.map vi).toArray).cell]
  simpa using hu
theorem SL.take {w : World} {A : Option Addr} {xs : List Int} (h : SL w A xs) (k : Nat) : SL w A (xs.take k) := by
  refine ⟨by simp, fun hn => ?_⟩
  have hl : (xs.take k).length = min k xs.length := List.length_take
  obtain ⟨ad, e, hb, hc⟩ := h.2 (by omega)
  refine ⟨ad, e, hb, fun j u hu => hc j u ?_⟩
  rw [List.map_take, List.getElem?_take] at hu
  split at hu
  · exact hu
  · cases hu

theorem rall_n (p : Nat) [NeZero p] (hp2 : p ≤ 2147483647) (A : Option Addr) (n cap : Nat) (xs : List Int) (hml : xs.length = n) (hxs : ∀ n ∈ xs, I64 n) (hreach : n * 8 ≤ 140737488353280) (w : World) (hs : SL w A xs) :
    Calls Tryd.prog 60 #[vi p, .slice A n cap] w fun e w' => Made (fvs (els p xs)) w e w' := by
  subst hml
  exact rall_any p hp2 A cap xs hxs hreach w hs



theorem atI_getD (xs : List Int) (k : Nat) : atI xs (k : Int) = xs.getD k 0 := by
  rw [atI, if_pos (by omega), Int.toNat_natCast]
theorem i64_getD' {xs : List Int} (h : ∀ n ∈ xs, I64 n) (k : Nat) : I64 (xs.getD k 0) := by
  rw [List.getD_eq_getElem?_getD]
  cases hx : xs[k]? with
  | none => constructor <;> decide
  | some x => exact h x (List.mem_of_getElem? hx)
end Go.Proofs.YtijhajkakmohnaaDoor

/- Walks: code.may, Encode, Distance. -/
set_option linter.unusedVariables false
namespace Go.Proofs.YtijhajkakmohnaaDoor
open Go.RowKit Zp



theorem of_elq (p : Nat) [NeZero p] (hp2 : p ≤ 2147483647) (b : Nat) (n : Int) (hn : I64 n) (w : World) (hc : w.cell? ⟨b, 0, none⟩ = some (vi p)) :
    Calls Tryd.prog 50 #[.pointer (some ⟨b, 0, none⟩), vi n] w fun e w' => e = .returned (vi (fv (el p n))) ∧ w = w' :=
  (of_el p hp2 b n hn w hc).mono fun _ _ h => ⟨h.1, h.2.symm⟩
end Go.Proofs.YtijhajkakmohnaaDoor

/- Walks: powers, Coefficients, code.Is. -/
set_option linter.unusedVariables false
namespace Go.Proofs.YtijhajkakmohnaaDoor
open Go.RowKit Zp

theorem mul_one_ {p : Nat} [NeZero p] (a : Fin p) : a * 1 = a := by grind
theorem mul_assoc_ {p : Nat} [NeZero p] (a b c : Fin p) : a * b * c = a * (b * c) := by grind

end Go.Proofs.YtijhajkakmohnaaDoor

/- A slice of ints that came in. -/
set_option linter.unusedVariables false
namespace Go.Proofs.YtijhajkakmohnaaDoor
open Go.RowKit

/-- '.slice A n c' came in and reads as xs -/
structure ArgS (w : World) (A : Option Addr) (n c : Nat) (xs : List Int) : Prop where
  len : xs.length = n
  cap : n ≤ c
  i64 : ∀ x ∈ xs, I64 x
  reach : c * 8 ≤ 140737488351232
  sl : SL w A xs

theorem ArgS.nil (w : World) : ArgS w none 0 0 [] := ⟨rfl, Nat.le_refl _, by simp, by omega, SL.nil⟩
theorem i64_of_wf {n : Int} (h : (Lit.int .i64 n).wf = true) : I64 n := by
  simpa [Lit.wf, IntKind.min, IntKind.max, IntKind.signed, IntKind.bits] using h

theorem ArgS.mk_ {w : World} {a : Addr} {len cap : Nat} {zs : List Int} (hl : len ≤ cap) (hm : cap ≤ maxLen) (hz : zs.length = cap) (lt : ∀ q ∈ MemPlace.row a zs.length, q.block < w.heap.size)
    (hcell : ∀ i, i < zs.length → w.cell? (a.add i) = some (.int .i64 (zs.getD i 0))) (hwz : ∀ n ∈ zs, (Lit.int .i64 n).wf = true) (hb : cap * 8 ≤ 140737488351232) : ArgS w (some a) len cap (zs.take len) := by
  have hlen : (zs.take len).length = len := by rw [List.length_take, hz]; omega
  refine ⟨hlen, hl, fun x hx => i64_of_wf (hwz x (List.mem_of_mem_take hx)), hb, ?_⟩
  refine ⟨by simp, fun hn => ⟨a, rfl, ?_, fun j u hu => ?_⟩⟩
  · have h0 : 0 < zs.length := by rw [hlen] at hn; omega
    have hc0 := hcell 0 h0
    have : (a.add 0).block < w.heap.size := by
      false_or_by_contra
      rename_i hge
      rw [World.cell?, Array.getElem?_eq_none (by omega)] at hc0
      cases hc0
    rwa [block_of_add] at this
  · rw [List.getElem?_map] at hu
    cases hj : (zs.take len)[j]? with
    | none => rw [hj] at hu; cases hu
    | some x =>
      rw [hj] at hu
      injection hu with hu
      rw [List.getElem?_take] at hj
      split at hj
      · have hjl : j < zs.length := (List.getElem?_eq_some_iff.1 hj).1
        rw [hcell j hjl, ← hu]
        simp [List.getD_eq_getElem?_getD, hj]
      · cases hj

section
variable {w w' : World} {A : Option Addr} {n c : Nat} {xs : List Int}
theorem ArgS.below (h : ArgS w A n c xs) (hb : Below w.heap.size w w') : ArgS w' A n c xs := ⟨h.len, h.cap, h.i64, h.reach, h.sl.below hb⟩
theorem ArgS.r8 (h : ArgS w A n c xs) : xs.length * 8 ≤ 140737488351232 := by
  have := h.reach
  have := h.cap
  have := h.len
  omega
end
end Go.Proofs.YtijhajkakmohnaaDoor

/- The walk of the law DomainBack. -/
set_option linter.unusedVariables false
namespace Go.Proofs.YtijhajkakmohnaaDoor
open Go.RowKit Zp

/-- is there a domain? -/
def HasDom2 (p size t : Int) : Prop := HasField p ∧ ∃ n : Nat, size = n ∧ SizeOk p.toNat n ∧ ¬ t % p = 0
theorem ints_sameH (A B : Option Addr) (n c m d : Nat) (xs ys : List Int) (hnx : xs.length = n) (hmy : ys.length = m) (he : xs = ys) (hn : n ≤ 9223372036854775807) (w : World) (hsx : SL w A xs) (hsy : SL w B ys) :
    Calls Tryd.prog 10 #[.slice A n c, .slice B m d] w fun e w' => e = .returned (.bool true) ∧ ∃ k, w' = w.drewN k := by
  subst hnx hmy
  have h := ints_any A B c d xs ys hn (by rw [← he]; exact hn) w hsx hsy
  rw [eqB_true he] at h
  exact h

end Go.Proofs.YtijhajkakmohnaaDoor

/- The walk of law3.done: a step on both sides. -/
set_option linter.unusedVariables false
namespace Go.Proofs.YtijhajkakmohnaaDoor
open Go.RowKit Zp

/-- nothing that was there is turned but two blocks -/
structure Grow2 (w w' : World) (c m : Nat) : Prop where
  os : w'.os = w.os
  tape : w'.tape = w.tape
  output : w'.output = w.output
  size : w.heap.size ≤ w'.heap.size
  block : ∀ x, x < w.heap.size → x ≠ c → x ≠ m → w'.heap[x]? = w.heap[x]?
section
variable {a b d : World} {c m B : Nat}
theorem Grow2.refl (w : World) (c m : Nat) : Grow2 w w c m := ⟨rfl, rfl, rfl, Nat.le_refl _, fun _ _ _ _ => rfl⟩
theorem Grow2.trans (h : Grow2 a b c m) (g : Grow2 b d c m) : Grow2 a d c m :=
  ⟨g.os.trans h.os, g.tape.trans h.tape, g.output.trans h.output, Nat.le_trans h.size g.size, fun x h1 h2 h3 => (g.block x (Nat.lt_of_lt_of_le h1 h.size) h2 h3).trans (h.block x h1 h2 h3)⟩
theorem Grow2.one (h : a.grownBy b (some c)) : Grow2 a b c m := ⟨h.os, h.tape, h.output, h.size, fun x h1 h2 _ => h.block x h1 (fun e => h2 (by injection e))⟩
theorem Grow2.two (h : a.grownBy b (some m)) : Grow2 a b c m := ⟨h.os, h.tape, h.output, h.size, fun x h1 _ h3 => h.block x h1 (fun e => h3 (by injection e))⟩
theorem Grow2.of (h : Below a.heap.size a b) : Grow2 a b c m := ⟨h.os, h.tape, h.output, h.size, fun x h1 _ _ => h.block x h1⟩
theorem Grow2.below (h : Grow2 a b c m) (hB : B ≤ a.heap.size) (hc : B ≤ c) (hm : B ≤ m) : Below B a b := ⟨h.os, h.tape, h.output, h.size, fun x hx => h.block x (by omega) (by omega) (by omega)⟩
theorem Grow2.drewN (h : Grow2 a b c m) (n : Nat) : Grow2 a (b.drewN n) c m := ⟨h.os, h.tape, h.output, h.size, h.block⟩
end
/-- what a step on both sides leaves -/
def DoneIs {p : Nat} [NeZero p] (c m s : Nat) (w : World) (e : Ending) (w' : World) : Prop :=
  e = .returned (.bool true) ∧ (∃ D, Chn w' c s D ∧ RCh w' m p D) ∧ Grow2 w w' c m
theorem Chn.ne_m {w : World} {c s m : Nat} {D D' : List Int} {p : Int} (h : Chn w c s D) (h' : RCh w m p D') : c ≠ m := by
  obtain ⟨v, h1⟩ := h.obj
  obtain ⟨g, cap, cs, h2, _⟩ := h'
  exact Blk.ne_ h1 h2 (by decide)
theorem RCh.farC {w w' : World} {m c s : Nat} {p : Int} {D D' : List Int} (h : RCh w m p D) (hc : Chn w c s D') (hg : w.grownBy w' (some c)) : RCh w' m p D := by
  obtain ⟨v, h1⟩ := hc.obj
  exact h.far h1 (by decide) hg (fun e => hc.ne_m h e.symm)
/-- a chain is kept where only a block of another type is turned -/
theorem Chn.farT {w w' : World} {c s x : Nat} {D : List Int} {t : TypeId} {cx : Array Value} (h : Chn w c s D) (hx : Blk w x t cx) (ht : t ≠ 52) (ht1 : t ≠ 3) (ht2 : t ≠ 65) (hg : w.grownBy w' (some x)) : Chn w' c s D := by
  obtain ⟨g, cap, t', cs, h1, h2, h3, h4, h5, h6, h7, h8⟩ := h
  have hgx : g ≠ x := Blk.ne_ h2 hx (h3.ne ht1 ht2)
  have hne : c ≠ x := Blk.ne_ h1 hx (fun e => ht e.symm)
  exact ⟨g, cap, t', cs, Blk.grown h1 hg (by intro e; injection e with e; exact hne e), h2.grown hg (by intro e; injection e with e; exact hgx e), h3, h4.far hg hgx, h5, h6, h7, h8⟩
theorem Chn.farM {w w' : World} {c s m : Nat} {D D' : List Int} {p : Int} (h : Chn w c s D) (hm : RCh w m p D') (hg : w.grownBy w' (some m)) : Chn w' c s D := by
  obtain ⟨g, cap, cs, h1, _⟩ := hm
  exact h.farT h1 (by decide) (by decide) (by decide) hg
/-- a slice of ints that lies below a block -/
def SLB (w : World) (B : Nat) (A : Option Addr) (xs : List Int) : Prop := Reads w B 1 A xs.length (xs.map vi)
theorem SLB.below {w w' : World} {B : Nat} {A : Option Addr} {xs : List Int} (h : SLB w B A xs) (hb : Below B w w') : SLB w' B A xs := Reads.below h hb
theorem SLB.sl {w : World} {B : Nat} {A : Option Addr} {xs : List Int} (h : SLB w B A xs) (hB : B ≤ w.heap.size) : SL w A xs := Reads.more h hB
theorem SLB.of {w : World} {B : Nat} {A : Option Addr} {xs : List Int} (h : SL w A xs) (hB : B = w.heap.size) : SLB w B A xs := hB ▸ h
theorem Own.grownC {w w' : World} {base x : Nat} {v : Value} {xs : List Int} (h : Own w base v xs) (hg : w.grownBy w' (some x)) (hx : x < base) : Own w' base v xs :=
  h.keep fun g hgv => hg.block g (h.lt g hgv).2 (fun e => by injection e with e; have := (h.lt g hgv).1; omega)
/-- an act of a script -/
structure OpI where
  kind : Int
  n : Int
  l : List Int
set_option maxRecDepth 100000 in
set_option maxHeartbeats 2000000 in
theorem done_any (p S b s k z c m B : Nat) [NeZero p] (oo : Nat → Nat → Fin p) (K : Pk p k) (kind N : Int) (hk : I64 kind) (hN : I64 N) (hN2 : N ≤ 20000) (A : Option Addr) (n cA : Nat) (l : List Int) (hl : l.length = n) (hlI : ∀ x ∈ l, I64 x) (hr : n * 8 ≤ 140737488351232) (D : List Int)
    (w : World) (F : Fld w S b p) (G : Spg w s b k z oo) (hS : S ≤ B) (hsB : s < B) (hBc : B ≤ c) (hBm : B ≤ m) (hC : Chn w c s D) (hR : RCh w m p D) (hsl : SLB w B A l) :
    Calls Tryd.prog 8 #[.pointer (some ⟨c, 0, none⟩), .pointer (some ⟨m, 0, none⟩), .agg #[vi kind, vi N, .slice A n cA]] w fun e w' => DoneIs (p := p) c m s w e w' := by
  have hba : Below w.heap.size w (w.alloc (.cells #[vi kind, vi N, .slice A n cA] 25)) := (Below.refl _ _).alloc (Nat.le_refl _) _
  have hO := Blk.new w 25 #[vi kind, vi N, .slice A n cA]
  have hcl := hC.lt
  have hml := hR.lt
  obtain ⟨W, hW⟩ : ∃ W, W = w.alloc (.cells #[vi kind, vi N, .slice A n cA] 25) := ⟨_, rfl⟩
  obtain ⟨o, ho⟩ : ∃ o, o = w.heap.size := ⟨_, rfl⟩
  rw [← hW, ← ho] at hO
  rw [← hW] at hba
  have HC := Lib.hid (hC.below hba)
  have HR := Lib.hid (hR.below hba)
  have HSL := Lib.hid (hsl.below (hba.mono (by omega : B ≤ w.heap.size)))
  have hwl : w.heap.size ≤ W.heap.size := hba.size
  have HF := Lib.hid (F.below hba F.le)
  have HG := Lib.hid (G.below hba (by omega))
  have HBA := Lib.hid (Grow2.of (c := c) (m := m) hba)
  have HLL := Lib.hid hl
  have HLI := Lib.hid hlI
  have HK := Lib.hid K
  have HO := Lib.hid hO
  have o0 := (Blk.cell hO 0).trans (show _ = some (vi kind) from rfl)
  have o1 := (Blk.cell hO 1).trans (show _ = some (vi N) from rfl)
  have o2 := (Blk.cell hO 2).trans (show _ = some (Value.slice A n cA) from rfl)
  have hol := Blk.lt hO
  have hom : o ≠ m := by omega
  have hoc : o ≠ c := by omega
  have HW := Lib.hid hW
  have HOO := Lib.hid ho
  have hpm := K.pm
  have hBW : B ≤ W.heap.size := by omega
  clear hba hO hC hR hsl hl hlI hW ho F G K
  obtain ⟨hN1, _⟩ := hN
  by_cases h1 : kind = 1
  · subst h1
    have hba3 : Below W.heap.size W (W.alloc (.cells #[] 3)) := (Below.refl _ _).alloc (Nat.le_refl _) _
    have hoe := own_empty W W.heap.size (Nat.le_refl _)
    have sla := (HSL.out.sl hBW).below hba3
    have o2a := (hba3.cell (p := ⟨o, 2, none⟩) hol).trans o2
    go_enter Tryd.func8, Tryd.ntmps8
    go_upto_region 3 with (fail)
    rw [← HW.out, ← HOO.out]
    go_wp2_with (at_builtin; refine wpList_appA (W.alloc (.cells #[] 3)) rfl _ _ rfl W.heap.size _ [] A n cA l rfl rfl HLL.out hoe sla (by simp; omega) (by simp) ?_; intro v' w3 hg; have hown3 := hg.own; have hb3 := hg.below hba3 hoe (Nat.le_refl _) (by simp); rw [List.nil_append] at hown3; clear hg; obtain ⟨A3, n3, c3, rfl, hl3, hc3, _, sl3⟩ := hown3.shapeN; rw [HLL.out] at hl3; subst hl3)
    have hF3 := HF.out.below hb3 HF.out.le
    have hG3 := HG.out.below hb3 (by omega)
    have hC3 := HC.out.below hb3
    have htk := chtake_any p S b s k z c oo D A3 n c3 l HLL.out HLI.out hr w3 hF3 hG3 (by omega) (by omega) hC3 sl3
    have HTK := Lib.hid htk
    have HC3 := Lib.hid hC3
    have HR3 := Lib.hid (HR.out.below hb3)
    have HSL3 := Lib.hid (HSL.out.below (hb3.mono hBW))
    have HOW3 := Lib.hid hown3
    have HO3 := Lib.hid (HO.out.below hb3 hol)
    have HG2 := Lib.hid (HBA.out.trans ((Grow2.of (c := c) (m := m) hb3)))
    have hsz3 := hb3.size
    clear htk hF3 hG3 hC3 hown3 hb3 hba3 hoe sla o2a o0 o1
    refine (HTK.out).mono ?_
    rintro e w4 ⟨⟨r4, rfl⟩, hC4, hgr4, _⟩
    have hR4 := HR3.out.farC HC3.out hgr4
    have hO4 := HO3.out.grown hgr4 (by intro e; injection e with e; exact hoc e)
    have o24 := (Blk.cell hO4 2).trans (show _ = some (Value.slice A n cA) from rfl)
    have hbB : Below B w3 w4 := (Grow2.one (m := m) hgr4).below (by omega) hBc hBm
    have hs4 := HSL3.out.below hbB
    have hsz4 := hgr4.size
    have hst := rstep_any p k HK.out 3 ⟨by omega, by omega⟩ m D A n cA l HLL.out HLI.out hr w4 hR4 (hs4.sl (by omega))
    have HST := Lib.hid hst
    have HC4 := Lib.hid hC4
    have HR4 := Lib.hid hR4
    have HO4 := Lib.hid hO4
    have HOW4 := Lib.hid (HOW3.out.grownC hgr4 (by omega))
    have HSL4 := Lib.hid hs4
    have HG4 := Lib.hid (HG2.out.trans (Grow2.one hgr4))
    clear hst hC4 hR4 hO4 hgr4 hbB hs4 o2
    go_wp2_with fail
    refine (HST.out).mono ?_
    rintro e w5 ⟨⟨r5, rfl⟩, hR5, hgr5, _⟩
    have HC5 := Lib.hid (HC4.out.farM HR4.out hgr5)
    have hO5 := HO4.out.grown hgr5 (by intro e; injection e with e; exact hom e)
    have o25 := (Blk.cell hO5 2).trans (show _ = some (Value.slice A n cA) from rfl)
    have HOW5 := Lib.hid (HOW4.out.grownC hgr5 (by omega))
    have hsz5 := hgr5.size
    have HSL5 := Lib.hid (HSL4.out.below ((Grow2.two (c := c) hgr5).below (by omega) hBc hBm))
    have HG5 := Lib.hid (HG4.out.trans (Grow2.two hgr5))
    have HR5 := Lib.hid hR5
    have sl5 : SL w5 A3 l := by
      obtain ⟨A', n', c', e2, _, _, _, h⟩ := HOW5.out.shapeN
      injection e2 with e2 _ _
      rw [e2]; exact h
    have HIS := Lib.hid (ints_sameH A3 A n c3 n cA l l HLL.out HLL.out rfl (by omega) w5 sl5 (HSL5.out.sl (by omega)))
    clear hR5 hgr5 hO5 o24 sl5
    go_wp2_with fail
    refine (HIS.out).mono ?_
    rintro e w6 ⟨rfl, m6, rfl⟩
    go_wp2
    go_ret
    exact ⟨rfl, ⟨_, HC5.out.drewN m6, HR5.out⟩, HG5.out.drewN m6⟩
  · by_cases h2 : kind = 2
    · subst h2
      have hdr := chdraw_any p S b s k z c oo D W HF.out HG.out (by omega) (by omega) HC.out
      have HDR := Lib.hid hdr
      clear hdr h1 o1 o2
      go_enter Tryd.func8, Tryd.ntmps8
      go_wp2_with fail
      rw [← HW.out]
      refine (HDR.out).mono ?_
      rintro e w4 ⟨rfl, hC4, hgr4, _⟩
      have hR4 := HR.out.farC HC.out hgr4
      have hrd := rdraw_any p k HK.out m D w4 hR4
      have HRD := Lib.hid hrd
      have HC4 := Lib.hid hC4
      have HR4 := Lib.hid hR4
      have HG4 := Lib.hid (HBA.out.trans (Grow2.one hgr4))
      clear hrd hC4 hR4 hgr4
      go_wp2_with fail
      refine (HRD.out).mono ?_
      rintro e w5 ⟨rfl, hR5, hgr5, _⟩
      have HC5 := Lib.hid (HC4.out.farM HR4.out hgr5)
      have HR5 := Lib.hid hR5
      have HG5 := Lib.hid (HG4.out.trans (Grow2.two hgr5))
      clear hR5 hgr5
      go_wp2
      go_ret
      exact ⟨ret_bool (by simp), ⟨_, HC5.out, HR5.out⟩, HG5.out⟩
    · by_cases h3 : kind = 3
      · subst h3
        have t65 : decide ((65536 : Int) < N) = false := by simp; omega
        by_cases hn1 : N < 1
        · have hp1 := chdraws_no c N ⟨by omega, by omega⟩ (.inl hn1) W
          have HP1 := Lib.hid hp1
          have t1 : ¬ (0 : Int) < N := by omega
          have HIS := Lib.hid (fun W => ints_sameH none none 0 0 0 0 [] [] rfl rfl rfl (by omega) W SL.nil SL.nil)
          clear hp1 h1 h2 o2
          go_enter Tryd.func8, Tryd.ntmps8
          go_wp2_with fail
          rw [← HW.out, ← HOO.out]
          refine (HP1.out).mono ?_
          rintro e w4 ⟨rfl, rfl⟩
          go_wp2
          go_loopw [12, 13, 14] (fun v t _ wr => v = .slice none 0 0 ∧ t = vi 0 ∧ W = wr) (fun _ _ _ _ => 0)
          case atStart => exact ⟨rfl, rfl, rfl⟩
          case round =>
            obtain ⟨rfl, rfl, rfl⟩ := hrel
            go_wp2_with fail
            refine (HIS.out _).mono ?_
            rintro e w6 ⟨rfl, m6, rfl⟩
            go_wp2
            go_ret
            exact ⟨rfl, ⟨_, HC.out.drewN m6, HR.out⟩, HBA.out.drewN m6⟩
        · obtain ⟨N, rfl⟩ := Int.eq_ofNat_of_zero_le (a := N) (by omega)
          have hp1 := chdraws_any p S b s k z c oo D N (by omega) (by omega) W HF.out HG.out (by omega) (by omega) HC.out
          have HP1 := Lib.hid hp1
          clear hp1 h1 h2 o2
          go_enter Tryd.func8, Tryd.ntmps8
          go_wp2_with fail
          rw [← HW.out, ← HOO.out]
          refine (HP1.out).mono ?_
          rintro e w4 ⟨v4, rfl, hown4, hC4, hgr4⟩
          have hR4 := HR.out.farC HC.out hgr4
          have HC4 := Lib.hid hC4
          have HR4 := Lib.hid hR4
          have HG4 := Lib.hid (HBA.out.trans (Grow2.one (m := m) hgr4))
          obtain ⟨A4, n4, c4, rfl, hl4, hc4, _, sl4⟩ := hown4.shapeN
          have hn4 : n4 = N := by rw [← hl4]; simp [drawsL]
          subst hn4
          have HL4 := Lib.hid hl4
          have HSL4 := Lib.hid sl4
          have HOW4 := Lib.hid hown4
          have hsz4 := hgr4.size
          have hI4 : ∀ x ∈ D, I64 x := by
            obtain ⟨_, _, _, _, _, _, _, _, _, h⟩ := HR4.out
            exact h
          clear hown4 hC4 hR4 hgr4 hl4 sl4 hI4
          go_wp2
          go_loopw [12, 13, 14] (fun v t _ wr => ∃ j : Nat, j ≤ n4 ∧ t = vi j ∧ Own wr w4.heap.size v (drawsL p k D j) ∧ RCh wr m p (iterD p k D j) ∧ w4.grownBy wr (some m)) (fun _ t _ _ => n4 - (intOf t).toNat)
          case atStart => exact ⟨0, Nat.zero_le _, rfl, World.ownsRow_nil _ _ _ _, HR4.out, ⟨rfl, rfl, rfl, Nat.le_refl _, fun _ _ _ => rfl⟩⟩
          case round =>
            obtain ⟨j, hj, rfl, hown, hR, hgr⟩ := hrel
            by_cases hjn : j < n4
            · have hrd := rdraw_any p k HK.out m (iterD p k D j) wr hR
              have HRD := Lib.hid hrd
              have HOW := Lib.hid hown
              have HGR := Lib.hid hgr
              have hsz := hgr.size
              have j1 : (0 : Int) ≤ (j : Int) := by omega
              have j2 : (j : Int) < (n4 : Int) := by omega
              clear hrd hown hR hgr
              go_wp2_with fail
              refine (HRD.out).mono ?_
              rintro e w5 ⟨rfl, hR5, hgr5, hnew5⟩
              have hown5 := HOW.out.grownC hgr5 (by omega)
              have hgr45 := grownBy_trans HGR.out hgr5
              have hbl5 : ∀ g, u12.ownBlock = some g → w4.heap.size ≤ g ∧ g < wr.heap.size := fun g e => HOW.out.lt g e
              have hsu := drawsL_succ p k D j
              have HSU := Lib.hid hsu
              have hlk : (drawsL p k D j).length < 17592186044416 := by simp [drawsL]; omega
              have HLK := Lib.hid hlk
              have HGR5 := Lib.hid hgr45
              have HR5 := Lib.hid hR5
              have HN5 := Lib.hid hnew5
              have HBL := Lib.hid hbl5
              have hsz5 := hgr45.size
              have hX : (iterD p k D (j + 1)).getD 0 0 = (drawnL p k (iterD p k D j)).getD 0 0 := rfl
              rw [hX] at hsu
              have HSU := Lib.hid hsu
              clear hgr5 hgr45 hR5 hnew5 hbl5 hsu hlk hX
              generalize (drawnL p k (iterD p k D j)).getD 0 0 = X at HSU ⊢
              go_wp2_with (at_builtin; refine wpList_app1 w5 X rfl _ _ rfl w4.heap.size _ _ rfl rfl hown5 HLK.out hsz5 ?_; intro v' w6 hg)
              go_roundw
              case rel => exact ⟨j + 1, by omega, by go_num, by rw [HSU.out]; exact hg.own, HR5.out.keepR hg.grown (fun e => by have := (HBL.out _ e).1; omega) (fun g cap hc e => by
                obtain ⟨g', cap', h1, h2⟩ := HN5.out
                rw [h1] at hc
                injection hc with hc
                injection hc with e1 _ _
                injection e1 with e1
                injection e1 with e1
                have := (HBL.out g e).2
                omega), grown_any HGR5.out hg.grown (fun g e => (HBL.out g e).1)⟩
              case measure => simp [intOf]; omega
            · have ej : j = n4 := by omega
              have t3 : ¬ (j : Int) < (n4 : Int) := by omega
              subst ej
              obtain ⟨A6, n6, c6, rfl, hl6, hc6, _, sl6⟩ := hown.shapeN
              have hx := HOW4.out.grownC hgr (by omega)
              have slx : SL wr A4 (drawsL p k D j) := by
                obtain ⟨A', n', c', e2, _, _, _, h⟩ := hx.shapeN
                injection e2 with e2 _ _
                rw [e2]; exact h
              have HIS := Lib.hid (ints_sameH A4 A6 j c4 n6 c6 _ _ HL4.out hl6 rfl (by omega) wr slx sl6)
              have HC6 := Lib.hid (HC4.out.farM HR4.out hgr)
              have HR6 := Lib.hid hR
              have HG6 := Lib.hid (HG4.out.trans (Grow2.two (c := c) hgr))
              clear hx slx sl6 hl6 hown hR hgr
              go_wp2_with fail
              refine (HIS.out).mono ?_
              rintro e w7 ⟨rfl, m7, rfl⟩
              go_wp2
              go_ret
              exact ⟨rfl, ⟨_, HC6.out.drewN m7, HR6.out⟩, HG6.out.drewN m7⟩
      · by_cases h4 : kind = 4
        · subst h4
          by_cases hn1 : N < 1
          · have hp1 := chplace_no c N ⟨by omega, by omega⟩ (.inl hn1) W
            have hp2 := rplace_no m N ⟨by omega, by omega⟩ (.inl hn1) W
            have HP1 := Lib.hid hp1
            have HP2 := Lib.hid hp2
            have t1 : decide (N < 1) = true := by simp; omega
            clear hp1 hp2 h1 h2 h3 o2
            go_enter Tryd.func8, Tryd.ntmps8
            go_wp2_with fail
            rw [← HW.out, ← HOO.out]
            refine (HP1.out).mono ?_
            rintro e w4 ⟨rfl, rfl⟩
            go_wp2_with fail
            refine (HP2.out).mono ?_
            rintro e w5 ⟨rfl, rfl⟩
            go_wp2
            go_ret
            exact ⟨rfl, ⟨_, HC.out, HR.out⟩, HBA.out⟩
          · have hp1 := chplace_any p S b s k z c oo D N (by omega) (by omega) W HF.out HG.out (by omega) (by omega) HC.out
            have HP1 := Lib.hid hp1
            have hlt : placeV p (drawnL p k D) N < N := Int.emod_lt_of_pos _ (by omega)
            have t1 : decide (N < 1) = false := by simp; omega
            clear hp1 h1 h2 h3 o0 o2
            go_enter Tryd.func8, Tryd.ntmps8
            go_wp2_with fail
            rw [← HW.out, ← HOO.out]
            refine (HP1.out).mono ?_
            rintro e w4 ⟨rfl, hC4, hgr4⟩
            have hR4 := HR.out.farC HC.out hgr4
            have hO4 := HO.out.grown hgr4 (by intro e; injection e with e; exact hoc e)
            have o14 := (Blk.cell hO4 1).trans (show _ = some (vi N) from rfl)
            have hrd := rplace_any p k HK.out m D N (by omega) (by omega) w4 hR4
            have HRD := Lib.hid hrd
            have HC4 := Lib.hid hC4
            have HR4 := Lib.hid hR4
            have HO4 := Lib.hid hO4
            have HG4 := Lib.hid (HBA.out.trans (Grow2.one hgr4))
            clear hrd hC4 hR4 hgr4 hO4
            go_wp2_with fail
            refine (HRD.out).mono ?_
            rintro e w5 ⟨rfl, hR5, hgr5⟩
            have hO5 := HO4.out.grown hgr5 (by intro e; injection e with e; exact hom e)
            have o15 := (Blk.cell hO5 1).trans (show _ = some (vi N) from rfl)
            have HC5 := Lib.hid (HC4.out.farM HR4.out hgr5)
            have HR5 := Lib.hid hR5
            have HG5 := Lib.hid (HG4.out.trans (Grow2.two hgr5))
            generalize placeV p (drawnL p k D) N = X at hlt
            have t2 : decide (X < N) = true := by simp; omega
            clear hR5 hgr5 hO5 o14
            go_wp2
            go_ret
            exact ⟨ret_bool (by simp), ⟨_, HC5.out, HR5.out⟩, HG5.out⟩
        · have t1 : (kind == 1) = false := by rw [beq_eq_false_iff_ne]; exact h1
          have t2 : (kind == 2) = false := by rw [beq_eq_false_iff_ne]; exact h2
          have t3 : (kind == 3) = false := by rw [beq_eq_false_iff_ne]; exact h3
          have t4 : (kind == 4) = false := by rw [beq_eq_false_iff_ne]; exact h4
          clear o1 o2 h1 h2 h3 h4
          go_enter Tryd.func8, Tryd.ntmps8
          go_wp2
          rw [← HW.out]
          go_ret
          exact ⟨rfl, ⟨_, HC.out, HR.out⟩, HBA.out⟩
end Go.Proofs.YtijhajkakmohnaaDoor

/- Walk: same.Spoil. -/
set_option linter.unusedVariables false
namespace Go.Proofs.YtijhajkakmohnaaDoor
open Go.RowKit Zp

theorem grown_set (w : World) (q : Addr) (u : Value) : w.grownBy (w.setCell q u) (some q.block) :=
  ⟨rfl, rfl, rfl, by rw [World.size_setCell]; exact Nat.le_refl _, fun i _ hne => Below.heap_setCell w q u i (fun e => hne (by rw [e]))⟩
/-- all but the slice's own block lies as it did -/
def Spoils (v : Value) (w : World) (e : Ending) (w' : World) : Prop := (∃ r, e = .returned r) ∧ w.grownBy w' v.ownBlock
theorem Own.kept' {w w' : World} {base base2 : Nat} {u v : Value} {xs ys : List Int} (h : Own w base2 u xs) (hv : Own w base v ys) (hg : w.grownBy w' v.ownBlock) (hne : ∀ g, v.ownBlock = some g → g < base2) : Own w' base2 u xs :=
  h.grown hg (by
    cases hu : u.ownBlock with
    | none => exact .inl rfl
    | some k => exact .inr (fun e => by have h1 := hne k e.symm; have h2 := (h.lt k hu).1; omega))
set_option maxHeartbeats 1000000 in
theorem spoil_any (base : Nat) (v : Value) (n : Nat) (xs : List Int) (hml : xs.length = n) (hn : n ≤ 8388608) (w : World) (hbase : base ≤ w.heap.size) (hown : Own w base v xs) :
    Calls Tryd.prog 11 #[v] w fun e w' => Spoils v w e w' := by
  have hrep : ∃ ys : List Int, ys.length = n ∧ Own w base v ys := ⟨xs, hml, hown⟩
  obtain ⟨A, n1, c, rfl, hl, hc, hcm, _⟩ := hown.shapeN
  rw [hml] at hl
  subst hl
  have hg : 0 < n → ∃ g, A = some ⟨g, 0, none⟩ := fun h0 => by
    obtain ⟨g, cap, e, _⟩ := hown.block (by omega)
    injection e with e1
    exact ⟨g, e1⟩
  have HREP := Lib.hid hrep
  have HG := Lib.hid hg
  clear hrep hml hown hcm hg
  go_enter Tryd.func11, Tryd.ntmps11
  go_wp2
  go_loopw [2] (fun i wr => ∃ k : Nat, k ≤ n ∧ i = vi k ∧ (∃ ys : List Int, ys.length = n ∧ Own wr base (.slice A n c) ys) ∧ w.grownBy wr (Value.slice A n c).ownBlock) (fun i _ => n - (intOf i).toNat)
  case atStart => exact ⟨0, Nat.zero_le _, rfl, HREP.out, ⟨rfl, rfl, rfl, Nat.le_refl _, fun _ _ _ => rfl⟩⟩
  case round =>
    obtain ⟨k, hk, rfl, ⟨ys, hyl, hown⟩, hb⟩ := hrel
    have HYL := Lib.hid hyl
    clear hyl
    by_cases hkn : k < n
    · obtain ⟨g, rfl⟩ := HG.out (by omega)
      have hat := hown.at_ HYL.out.symm k (by rw [HYL.out]; exact hkn)
      have hfz := hown.frozen_ HYL.out.symm k
      have hst := hown.store HYL.out.symm k (-77)
      have hgs := grown_set wr ⟨g, k, none⟩ (vi (-77))
      generalize ys[k]'(by rw [HYL.out]; exact hkn) = y at hat
      have HST := Lib.hid hst
      clear hst hown
      go_wp2
      go_roundw
      case rel => exact ⟨k + 1, by omega, by go_num, ⟨ys.set k (-77), by rw [List.length_set]; exact HYL.out, HST.out⟩, grownBy_trans hb (by first | exact hgs | (simp only [Addr.add, Nat.zero_add]; exact hgs))⟩
      case measure => simp [intOf]; omega
    · obtain rfl : k = n := by omega
      have hlit := sl_lit' wr [-78, -79]
      have hba : Below wr.heap.size wr (wr.alloc (.cells #[vi (-78), vi (-79)] 3)) := (Below.refl _ _).alloc (Nat.le_refl _) _
      have hown' := hown.below hba
      have hsz : base ≤ (wr.alloc (.cells #[vi (-78), vi (-79)] 3)).heap.size := Nat.le_trans (Nat.le_trans hbase hb.size) hba.size
      have hb2 := grownBy_trans hb (World.grownBy_alloc wr (.cells #[vi (-78), vi (-79)] 3) _)
      go_wp2_with (at_builtin; refine wpList_appA _ rfl _ _ rfl base _ ys _ 2 2 [-78, -79] rfl rfl rfl hown' hlit (by rw [HYL.out]; omega) hsz ?_; intro v' w2 hg)
      go_end0
      exact ⟨⟨_, rfl⟩, grownBy_trans hb2 hg.grown⟩
end Go.Proofs.YtijhajkakmohnaaDoor

/- Stacks of chains, on both sides. -/
set_option linter.unusedVariables false
namespace Go.Proofs.YtijhajkakmohnaaDoor
open Go.RowKit Zp

def ptr (c : Nat) : Value := .pointer (some ⟨c, 0, none⟩)
def ptrs (l : List Nat) : List Value := l.map ptr
/-- a list of pointers of one's own -/
abbrev OwnP (w : World) (base : Nat) (e : TypeId) (v : Value) (l : List Nat) : Prop := w.ownsRow base e 1 v (ptrs l).length (ptrs l)
theorem OwnP.keep {w w' : World} {base : Nat} {e : TypeId} {v : Value} {l : List Nat} (h : OwnP w base e v l) (hk : ∀ g, v.ownBlock = some g → w'.heap[g]? = w.heap[g]?) : OwnP w' base e v l := by
  refine ⟨h.1, ?_⟩
  rcases h.2 with h0 | ⟨g, cap, cur, hv, hg, hh, rest⟩
  · exact .inl h0
  · exact .inr ⟨g, cap, cur, hv, hg, by rw [hk g (by rw [hv]; rfl)]; exact hh, rest⟩
theorem OwnP.below {w w' : World} {base : Nat} {e : TypeId} {v : Value} {l : List Nat} (h : OwnP w base e v l) (hb : Below w.heap.size w w') : OwnP w' base e v l := h.keep fun g hg => hb.block g (World.ownsRow.lt h g hg).2
theorem OwnP.blk {w : World} {base : Nat} {e : TypeId} {v : Value} {l : List Nat} (h : OwnP w base e v l) {g : Nat} (hg : v.ownBlock = some g) : ∃ cs, Blk w g e cs := by
  rcases h.2 with ⟨e0, _⟩ | ⟨g', cap, cur, hv, _, hh, _⟩
  · rw [e0] at hg; cases hg
  · rw [hv] at hg
    injection hg with hg
    subst hg
    exact ⟨cur, hh⟩
/-- kept where only blocks of other types are turned -/
theorem OwnP.far2 {w w' : World} {base c m : Nat} {e t1 t2 : TypeId} {v : Value} {l : List Nat} {a1 a2 : Array Value} (h : OwnP w base e v l) (h1 : Blk w c t1 a1) (h2 : Blk w m t2 a2) (n1 : e ≠ t1) (n2 : e ≠ t2) (g : Grow2 w w' c m) : OwnP w' base e v l :=
  h.keep fun x hx => by
    obtain ⟨cs, hb⟩ := h.blk hx
    exact g.block x (World.ownsRow.lt h x hx).2 (Blk.ne_ hb h1 n1) (Blk.ne_ hb h2 n2)
theorem OwnP.far1 {w w' : World} {base : Nat} {e t : TypeId} {v : Value} {l : List Nat} {row : Option Nat} (h : OwnP w base e v l) (hr : ∀ x, row = some x → ∃ cs, Blk w x t cs) (ht : e ≠ t) (hg : w.grownBy w' row) : OwnP w' base e v l :=
  h.keep fun x hx => by
    obtain ⟨cs, hb⟩ := h.blk hx
    refine hg.block x (World.ownsRow.lt h x hx).2 (fun e => ?_)
    obtain ⟨cs', hb'⟩ := hr x e.symm
    exact Blk.ne_ hb hb' ht rfl
theorem Chn.keep2 {w w' : World} {c' s c m : Nat} {D : List Int} {p : Int} {v v' : Value} (h : Chn w c' s D) (hc : ChO w c s v) (hm : RO w m p v') (g : Grow2 w w' c m) (ne : c' ≠ c) : Chn w' c' s D := by
  obtain ⟨gd, cap, t, cs, h1, h2, h3, h4, h5, h6, h7, h8⟩ := h
  have a1 : gd ≠ c := Blk.ne_ h2 hc (h3.ne (by decide) (by decide))
  have a2 : gd ≠ m := Blk.ne_ h2 hm (h3.ne (by decide) (by decide))
  have a3 : c' ≠ m := Blk.ne_ h1 hm (by decide)
  refine ⟨gd, cap, t, cs, (g.block _ (Blk.lt h1) ne a3).trans h1, (g.block _ h2.lt a1 a2).trans h2, h3, ⟨h4.1, fun hn => ?_⟩, h5, h6, h7, h8⟩
  obtain ⟨ad, e, hb, hcl⟩ := h4.2 hn
  injection e with e
  subst e
  exact ⟨_, rfl, Nat.lt_of_lt_of_le hb g.size, fun j u hu => (World.cell?_of_block (by rw [block_of_add]; exact g.block gd h2.lt a1 a2)).trans (hcl j u hu)⟩
theorem RCh.keep2 {w w' : World} {m' s c m : Nat} {D : List Int} {p : Int} {v v' : Value} (h : RCh w m' p D) (hc : ChO w c s v) (hm : RO w m p v') (g : Grow2 w w' c m) (ne : m' ≠ m) : RCh w' m' p D := by
  obtain ⟨gd, cap, cs, h1, h2, h4, h5, h6, h7, h8⟩ := h
  have a1 : gd ≠ c := Blk.ne_ h2 hc (by decide)
  have a2 : gd ≠ m := Blk.ne_ h2 hm (by decide)
  have a3 : m' ≠ c := Blk.ne_ h1 hc (by decide)
  refine ⟨gd, cap, cs, (g.block _ (Blk.lt h1) a3 ne).trans h1, (g.block _ h2.lt a1 a2).trans h2, ⟨h4.1, fun hn => ?_⟩, h5, h6, h7, h8⟩
  obtain ⟨ad, e, hb, hcl⟩ := h4.2 hn
  injection e with e
  subst e
  exact ⟨_, rfl, Nat.lt_of_lt_of_le hb g.size, fun j u hu => (World.cell?_of_block (by rw [block_of_add]; exact g.block gd h2.lt a1 a2)).trans (hcl j u hu)⟩
theorem Chn.farR {w w' : World} {c s : Nat} {D : List Int} {t : TypeId} {row : Option Nat} (h : Chn w c s D) (hr : ∀ x, row = some x → ∃ cs, Blk w x t cs) (h1' : t ≠ 52) (h2' : t ≠ 3) (h3' : t ≠ 65) (hg : w.grownBy w' row) : Chn w' c s D := by
  cases row with
  | none => exact h.below ⟨hg.os, hg.tape, hg.output, hg.size, fun x hx => hg.block x hx (by simp)⟩
  | some x =>
    obtain ⟨cs, hb⟩ := hr x rfl
    exact h.farT hb h1' h2' h3' hg
theorem RCh.farR {w w' : World} {m : Nat} {p : Int} {D : List Int} {t : TypeId} {row : Option Nat} (h : RCh w m p D) (hr : ∀ x, row = some x → ∃ cs, Blk w x t cs) (h1' : t ≠ 37) (h2' : t ≠ 3) (hg : w.grownBy w' row) : RCh w' m p D := by
  cases row with
  | none => exact h.below ⟨hg.os, hg.tape, hg.output, hg.size, fun x hx => hg.block x hx (by simp)⟩
  | some x =>
    obtain ⟨cs, hb⟩ := hr x rfl
    have hne : m ≠ x := by
      obtain ⟨g, cap, cs', k1, _⟩ := h
      exact Blk.ne_ k1 hb (fun e => h1' e.symm)
    exact h.far hb h2' hg hne
/-- two stacks that answer alike -/
structure Stk (p : Int) (w : World) (B s base : Nat) (u v : Value) (cl ml : List Nat) : Prop where
  ol : OwnP w base 29 u cl
  om : OwnP w base 31 v ml
  len : ml.length = cl.length
  pos : 0 < cl.length
  nd : cl.Nodup
  md : ml.Nodup
  at_ : ∀ i (h : i < cl.length) (h' : i < ml.length), B ≤ cl[i] ∧ B ≤ ml[i] ∧ ∃ D, Chn w cl[i] s D ∧ RCh w ml[i] p D
section
variable {p : Int} {w w' : World} {B s base : Nat} {u v : Value} {cl ml : List Nat}
theorem Stk.below (h : Stk p w B s base u v cl ml) (hb : Below w.heap.size w w') : Stk p w' B s base u v cl ml :=
  ⟨h.ol.below hb, h.om.below hb, h.len, h.pos, h.nd, h.md, fun i h1 h2 => by
    obtain ⟨a, b, D, c, d⟩ := h.at_ i h1 h2
    exact ⟨a, b, D, c.below hb, d.below hb⟩⟩
theorem nodup_get {l : List Nat} (h : l.Nodup) {i j : Nat} (hi : i < l.length) (hj : j < l.length) (hne : i ≠ j) : l[i] ≠ l[j] := by
  intro e
  rcases Nat.lt_or_gt_of_ne hne with hlt | hlt
  · exact (List.pairwise_iff_getElem.1 h i j hi hj hlt) e
  · exact (List.pairwise_iff_getElem.1 h j i hj hi hlt) e.symm
theorem Stk.step (h : Stk p w B s base u v cl ml) {k : Nat} (hk : k < cl.length) (hk' : k < ml.length) (g : Grow2 w w' cl[k] ml[k]) (hn : ∃ D, Chn w' cl[k] s D ∧ RCh w' ml[k] p D) : Stk p w' B s base u v cl ml := by
  obtain ⟨b1, b2, D0, hC, hR⟩ := h.at_ k hk hk'
  obtain ⟨vc, hco⟩ := hC.obj
  obtain ⟨gr, capr, csr, hro, _⟩ := hR
  refine ⟨h.ol.far2 hco hro (by decide) (by decide) g, h.om.far2 hco hro (by decide) (by decide) g, h.len, h.pos, h.nd, h.md, fun i h1 h2 => ?_⟩
  obtain ⟨a, b, D, c, d⟩ := h.at_ i h1 h2
  by_cases e : i = k
  · subst e
    exact ⟨a, b, hn⟩
  · exact ⟨a, b, D, c.keep2 hco hro g (nodup_get h.nd h1 hk e), d.keep2 hco hro g (nodup_get h.md h2 hk' e)⟩
theorem OwnP.take {e : TypeId} {A : Option Addr} {n c k : Nat} {l : List Nat} (h : OwnP w base e (.slice A n c) l) (hk : k ≤ l.length) (hk0 : 0 < k) : OwnP w base e (.slice A k c) (l.take k) := by
  have hl : (ptrs (l.take k)).length = k := by simp [ptrs]; omega
  have hfl : (ptrs l).length = l.length := by simp [ptrs]
  rcases h.2 with ⟨e0, h0⟩ | ⟨g, cap, cur, hv, hg, hh, hnc, hcm, hcs, ht⟩
  · injection e0 with _ _ _
    omega
  · injection hv with hA hn hc
    subst hA hc
    refine ⟨by first | (rw [hl]; simp; done) | (rw [hl]; simp [ptrs]; omega), .inr ⟨g, c, cur, by rw [hl], hg, hh, by rw [hl]; omega, hcm, hcs, ?_⟩⟩
    rw [hl]
    simp only [Nat.mul_one] at ht ⊢
    rw [hfl] at ht
    have : (ptrs l).take k = ptrs (l.take k) := by simp [ptrs, List.map_take]
    rw [← this, ← ht, List.take_take]
    congr 1
    omega
theorem Stk.pop {A A' : Option Addr} {n n' c c' k : Nat} (h : Stk p w B s base (.slice A n c) (.slice A' n' c') cl ml) (hk : k ≤ cl.length) (hk0 : 0 < k) : Stk p w B s base (.slice A k c) (.slice A' k c') (cl.take k) (ml.take k) := by
  have hlen := h.len
  refine ⟨h.ol.take hk hk0, h.om.take (by omega) hk0, by simp; omega, by simp; omega, (h.nd.sublist (List.take_sublist _ _)), (h.md.sublist (List.take_sublist _ _)), fun i h1 h2 => ?_⟩
  simp at h1 h2
  obtain ⟨a, b, D, c, d⟩ := h.at_ i (by omega) (by omega)
  rw [List.getElem_take, List.getElem_take]
  exact ⟨a, b, D, c, d⟩
end
theorem info_pc : (Tryd.prog.info? 29).map (fun i => (i.zero, i.size, i.bytes)) = some (some (.pointer none), 1, 8) := by kernel_rfl
theorem info_pr : (Tryd.prog.info? 31).map (fun i => (i.zero, i.size, i.bytes)) = some (some (.pointer none), 1, 8) := by kernel_rfl
/-- what an append of a pointer leaves -/
structure GrewP (w w' : World) (base : Nat) (e : TypeId) (v v' : Value) (l : List Nat) : Prop where
  own : OwnP w' base e v' l
  grown : w.grownBy w' v.ownBlock
theorem run_appP (t e : TypeId) (ht : Tryd.prog.underlying t = some (.slice e)) (hin : (Tryd.prog.info? e).map (fun i => (i.zero, i.size, i.bytes)) = some (some (.pointer none), 1, 8)) (w : World) (base : Nat) (v : Value) (l : List Nat) (x : Nat) (hown : OwnP w base e v l) (hlen : l.length < 17592186044416) (hbase : base ≤ w.heap.size) (ty : TypeId) :
    ∃ v' w', (Builtin.append_ #[t, t] ty #[v, .slice (some ⟨w.heap.size, 0, none⟩) 1 1]).run Tryd.prog (w.alloc (.cells #[ptr x] e)) = .ok v' w' ∧ GrewP w w' base e v v' (l ++ [x]) := by
  obtain ⟨i0, hi, hz0, hz1, hz2⟩ := info_parts hin
  have hll : (ptrs l).length = l.length := by simp [ptrs]
  obtain ⟨v', w', hrun, h2, h3, _, h5⟩ := run_append_own_at (P := Tryd.prog) (w.alloc (.cells #[ptr x] e)) base t ty e i0 _ 1 8 ht hi hz0 hz1 hz2 rfl (by omega)
    v (ptrs l).length (ptrs l) (World.ownsRow.alloc hown _) ⟨w.heap.size, 0, none⟩ 1 1 [ptr x] rfl (by
      intro j u hj
      match j, hj with
      | 0, hj => simp at hj; subst hj; simp [Addr.add]) (by simp [Value.oneCell', ptr]) (by simp only [maxLen]; omega) (by omega) (by simp; omega)
  refine ⟨v', w', hrun, ⟨?_, grownBy_trans (World.grownBy_alloc w _ _) h3⟩⟩
  have e1 : ptrs (l ++ [x]) = ptrs l ++ [ptr x] := by simp [ptrs]
  have e2 : (ptrs (l ++ [x])).length = (ptrs l).length + 1 := by simp [ptrs]
  show w'.ownsRow base e 1 v' (ptrs (l ++ [x])).length (ptrs (l ++ [x]))
  rw [e2, e1]
  exact h2
theorem wpList_appP (t e : TypeId) (ht : Tryd.prog.underlying t = some (.slice e)) (hin : (Tryd.prog.info? e).map (fun i => (i.zero, i.size, i.bytes)) = some (some (.pointer none), 1, 8)) {ops : Array Oper} {rest : List Oper} {o : Oper} {a : Act} {Q : Exit → Act → World → Prop} (w : World) (x : Nat) (hgd : o.guard = none) (s y : Operand)
    (ho : o.op = .call { callee := .builtin .append, args := #[s, y], argTypes := #[t, t] })
    (base : Nat) (v : Value) (l : List Nat) (hs : a.eval s = v) (hx : a.eval y = .slice (some ⟨w.heap.size, 0, none⟩) 1 1) (hown : OwnP w base e v l) (hlen : l.length < 17592186044416) (hbase : base ≤ w.heap.size)
    (h : ∀ v' w', GrewP w w' base e v v' (l ++ [x]) → wpList Tryd.prog ops Q rest (a.put o.dst v') w') : wpList Tryd.prog ops Q (o :: rest) a (w.alloc (.cells #[ptr x] e)) :=
  wpList_plain hgd fun _ hK => by
    obtain ⟨v', w', hrun, hg⟩ := run_appP t e ht hin w base v l x hown hlen hbase o.type
    unfold Oper.wp execOp
    simp only [ho, resolve, invoke, builtin, Sem.run_bind, Sem.run_pure, Result.andThen_ok, List.map_toArray, List.map_cons, List.map_nil, hs, hx, hrun]
    exact hK _ _ (h v' w' hg)
theorem cell_b2P (w : World) (v : Value) (t : TypeId) (o : Obj) : ((w.alloc o).alloc (.cells #[v] t)).cell? ⟨w.heap.size + 1, 0, none⟩ = some v := by
  have h := Blk.new (w.alloc o) t #[v]
  rw [World.size_alloc] at h
  exact (Blk.cell h 0).trans rfl
/-- append of a pointer that lies somewhere -/
theorem wpList_appPG (t e : TypeId) (ht : Tryd.prog.underlying t = some (.slice e)) (hin : (Tryd.prog.info? e).map (fun i => (i.zero, i.size, i.bytes)) = some (some (.pointer none), 1, 8)) {ops : Array Oper} {rest : List Oper} {o : Oper} {a : Act} {Q : Exit → Act → World → Prop} (w : World) (x g : Nat) (hgd : o.guard = none) (s y : Operand)
    (ho : o.op = .call { callee := .builtin .append, args := #[s, y], argTypes := #[t, t] })
    (base : Nat) (v : Value) (l : List Nat) (hs : a.eval s = v) (hx : a.eval y = .slice (some ⟨g, 0, none⟩) 1 1) (hc : w.cell? ⟨g, 0, none⟩ = some (ptr x)) (hown : OwnP w base e v l) (hlen : l.length < 17592186044416) (hbase : base ≤ w.heap.size)
    (h : ∀ v' w', GrewP w w' base e v v' (l ++ [x]) → wpList Tryd.prog ops Q rest (a.put o.dst v') w') : wpList Tryd.prog ops Q (o :: rest) a w :=
  wpList_plain hgd fun _ hK => by
    obtain ⟨i0, hi, hz0, hz1, hz2⟩ := info_parts hin
    have hll : (ptrs l).length = l.length := by simp [ptrs]
    obtain ⟨v', w', hrun, h2, h3, _, h5⟩ := run_append_own_at (P := Tryd.prog) w base t o.type e i0 _ 1 8 ht hi hz0 hz1 hz2 rfl (by omega)
      v (ptrs l).length (ptrs l) hown ⟨g, 0, none⟩ 1 1 [ptr x] rfl (by
        intro j u hj
        match j, hj with
        | 0, hj => simp at hj; subst hj; simpa [Addr.add] using hc) (by simp [Value.oneCell', ptr]) (by simp only [maxLen]; omega) (by omega) (by omega)
    have hg : GrewP w w' base e v v' (l ++ [x]) := by
      refine ⟨?_, h3⟩
      have e1 : ptrs (l ++ [x]) = ptrs l ++ [ptr x] := by simp [ptrs]
      have e2 : (ptrs (l ++ [x])).length = (ptrs l).length + 1 := by simp [ptrs]
      show w'.ownsRow base e 1 v' (ptrs (l ++ [x])).length (ptrs (l ++ [x]))
      rw [e2, e1]
      exact h2
    unfold Oper.wp execOp
    simp only [ho, resolve, invoke, builtin, Sem.run_bind, Sem.run_pure, Result.andThen_ok, List.map_toArray, List.map_cons, List.map_nil, hs, hx, hrun]
    exact hK _ _ (h v' w' hg)
section
variable {p : Int} {w w' : World} {B s base : Nat} {u v : Value} {cl ml : List Nat}
theorem Stk.lt (h : Stk p w B s base u v cl ml) : (∀ c ∈ cl, c < w.heap.size) ∧ ∀ m ∈ ml, m < w.heap.size := by
  constructor
  · intro c hc
    obtain ⟨i, hi, rfl⟩ := List.getElem_of_mem hc
    obtain ⟨_, _, D, h1, _⟩ := h.at_ i hi (by rw [h.len]; exact hi)
    exact h1.lt
  · intro m hm
    obtain ⟨i, hi, rfl⟩ := List.getElem_of_mem hm
    obtain ⟨_, _, D, _, h1⟩ := h.at_ i (by rw [← h.len]; exact hi) hi
    exact h1.lt
theorem nodup_push {l : List Nat} {x : Nat} (h : l.Nodup) (hx : x ∉ l) : (l ++ [x]).Nodup := by
  rw [List.nodup_append]
  exact ⟨h, by simp, fun a ha b hb => by simp at hb; subst hb; exact fun e => hx (e ▸ ha)⟩
/-- a new chain is laid on both stacks -/
theorem Stk.push {w3 w4 w5 : World} {u' v' : Value} {d r : Nat} {D : List Int} (h : Stk p w B s base u v cl ml) (hg : GrewP w w3 base 29 u u' (cl ++ [d])) (hd : d ∉ cl) (hdB : B ≤ d) (hC : Chn w d s D)
    (hb : Below w3.heap.size w3 w4) (hR : RCh w4 r p D) (hr : r ∉ ml) (hrB : B ≤ r) (hg2 : GrewP w4 w5 base 31 v v' (ml ++ [r])) : Stk p w5 B s base u' v' (cl ++ [d]) (ml ++ [r]) := by
  have hu : ∀ x, u.ownBlock = some x → ∃ cs, Blk w x 29 cs := fun x hx => h.ol.blk hx
  have om3 : OwnP w3 base 31 v ml := h.om.far1 hu (by decide) hg.grown
  have om4 := om3.below hb
  have ol4 := OwnP.below hg.own hb
  have hv : ∀ x, v.ownBlock = some x → ∃ cs, Blk w4 x 31 cs := fun x hx => om4.blk hx
  have kC : ∀ {c D}, Chn w c s D → Chn w5 c s D := fun hc => ((hc.farR hu (by decide) (by decide) (by decide) hg.grown).below hb).farR hv (by decide) (by decide) (by decide) hg2.grown
  have kR : ∀ {m D}, RCh w m p D → RCh w5 m p D := fun hm => ((hm.farR hu (by decide) (by decide) hg.grown).below hb).farR hv (by decide) (by decide) hg2.grown
  have hlen := h.len
  refine ⟨ol4.far1 hv (by decide) hg2.grown, hg2.own, by simp; exact hlen, by simp, nodup_push h.nd hd, nodup_push h.md hr, fun i h1 h2 => ?_⟩
  simp at h1 h2
  by_cases e : i < cl.length
  · rw [List.getElem_append_left e, List.getElem_append_left (by omega)]
    obtain ⟨a, b, D', c, d'⟩ := h.at_ i e (by omega)
    exact ⟨a, b, D', kC c, kR d'⟩
  · have ei : i = cl.length := by omega
    subst ei
    rw [List.getElem_append_right (by omega), List.getElem_append_right (by omega)]
    simp only [Nat.sub_self, hlen, List.getElem_singleton]
    exact ⟨hdB, hrB, D, kC hC, hR.farR hv (by decide) (by decide) hg2.grown⟩
/-- the pointer at a place -/
theorem OwnP.at_ {e : TypeId} {A : Option Addr} {n c : Nat} {l : List Nat} (h : OwnP w base e (.slice A n c) l) {k : Nat} (hk : k < l.length) : n = l.length ∧ n ≤ c ∧ ∃ g, A = some ⟨g, 0, none⟩ ∧ w.cell? ⟨g, k, none⟩ = some (ptr l[k]) := by
  have hll : (ptrs l).length = l.length := by simp [ptrs]
  rcases h.2 with ⟨e0, h0⟩ | ⟨g, cap, cur, hv, hg, hh, hnc, hcm, hcs, ht⟩
  · omega
  · injection hv with hA hn hc
    subst hA hc
    refine ⟨by rw [hn, hll], by rw [hn]; exact hnc, g, rfl, ?_⟩
    have h' := h
    rw [hn] at h'
    have hc := World.ownsRow.cellAt h' k (by omega)
    rw [hc]
    simp [ptrs, hk]
end
end Go.Proofs.YtijhajkakmohnaaDoor
