/- A bundle of texts: Cc, Ch, Rch, Vals, Sm1, Fold, Sm2, Code, Sm3, Sm4, Ct, Arg, Rowm, Sm5, Sm6, Rl, Sz, Pl3, Ss, Oa. -/
import Derived.Test.YtijhajkakmohnaaGreatDoorB02
import Derived.Test.YtijhajkakmohnaaGreatDoorB03
import Derived.Lib.AppendZeros
import Derived.Deep.RegionHeld3
import Derived.BigQuiet
import Derived.Deep.DeepCutAuto
import Derived.Test.YtijhajkakmohnaaGreatDoorB01
import Derived.Test.YtijhajkakmohnaaGreatDoorB00
import Derived.ChangeSlices
import Derived.SizedLaws
import Derived.Deep.Matrix
import Derived.Lib.SmallJoins
import Derived.ChangeOld
import Derived.Below
import Derived.OpenShut
/- slices.Grow of nil; slices.Concat of slices of ints. -/
set_option linter.unusedVariables false
namespace Go.Proofs.YtijhajkakmohnaaGreatDoor
open Go.RowKit

set_option maxRecDepth 100000 in
set_option maxHeartbeats 2000000 in
theorem grow_nil (n : Nat) (hn : n * 8 ≤ 140737488355328) (w : World) :
    Calls Tryz.prog 175 #[.slice none 0 0, vi n] w fun e w' => Made [] w e w' := by
  rcases Nat.eq_zero_or_pos n with h0 | h0
  · subst h0
    go_enter Tryz.func175, Tryz.ntmps175
    go_wp2
    go_ret
    exact ⟨_, rfl, World.ownsRow_nil _ _ _ _, Below.refl _ _⟩
  · obtain ⟨i0, hi, hz0, hz1, hz2⟩ := info_parts info_int
    have hr := Lib.run_append_nil_zeros (P := Tryz.prog) w 22 3 22 3 i0 (.int .i64 0) .i64 .i64 Tryz.underlying22 Tryz.underlying3 hi hz0 n h0 (by omega) (by omega) (by rw [hz2]; omega)
    obtain ⟨c, hc⟩ : ∃ c, c = grownCap w n 0 3 := ⟨_, rfl⟩
    have hcm : c ≤ maxLen := by
      have := grownCap_le_maxLen w n 0 3 (by unfold maxLen; omega)
      omega
    have hge : n ≤ c := by
      have := grownCap_ge w n 0 3
      omega
    rw [← hc] at hr
    obtain ⟨cs, hcs⟩ : ∃ cs, cs = Builtin.zeroCells (Value.int .i64 0).cells n ++ Builtin.zeroCells (Value.int .i64 0).cells (c - n) := ⟨_, rfl⟩
    rw [← hcs] at hr
    have hsz : cs.size = c := by
      rw [hcs, Array.size_append, size_zeroCells, size_zeroCells]
      simp [Value.cells]
      omega
    have ho : Own (w.drew.alloc (.cells cs 3)) w.heap.size (.slice (some ⟨w.heap.size, 0, none⟩) 0 c) [] := World.ownsRow_made w.drew cs c (Nat.le_refl _) hcm (by rw [hsz, Nat.mul_one])
    have hb : Below w.heap.size w (w.drew.alloc (.cells cs 3)) := (below_drewN (Below.refl w.heap.size w) 1).alloc (Nat.le_refl _) _
    have HO := Lib.hid ho
    have HB := Lib.hid hb
    have n1 : (0 : Int) < (n : Int) := by omega
    have n2 : (n : Int) ≤ 17592186044416 := by omega
    have n3 : 0 < n := h0
    have c1 : (c : Int) ≤ 9223372036854775807 := by unfold maxLen at hcm; omega
    clear hc hcs hsz hi hz0 hz1 hz2 ho hb hcm
    go_enter Tryz.func175, Tryz.ntmps175
    go_wp2_with (at_builtin; refine Lib.wpList_append_run _ rfl _ _ _ _ rfl _ _ rfl rfl _ _ hr ?_)
    go_ret
    exact ⟨_, rfl, HO.out, HB.out⟩
theorem flat_take {ts : List (List Int)} {k : Nat} (hk : k < ts.length) : (ts.take (k + 1)).flatten = (ts.take k).flatten ++ ts[k] := by
  rw [List.take_succ_eq_append_getElem hk, List.flatten_append]; simp
theorem flat_le (ts : List (List Int)) (k : Nat) : (ts.take k).flatten.length ≤ ts.flatten.length := by
  have h := congrArg (fun l => (List.flatten l).length) (List.take_append_drop k ts)
  simp only [List.flatten_append, List.length_append] at h
  omega
set_option maxRecDepth 100000 in
set_option maxHeartbeats 2000000 in
theorem concat_any (A : Option Addr) (m c : Nat) (ts : List (List Int)) (hm : ts.length = m) (hmm : m ≤ 1000000) (htot : ts.flatten.length * 8 ≤ 140737488355328) (w : World) (hT : TB w A ts) :
    Calls Tryz.prog 146 #[.slice A m c] w fun e w' => Made ts.flatten w e w' := by
  have HT := Lib.hid hT
  have HM := Lib.hid hm
  obtain ⟨N, hN⟩ : ∃ N, N = ts.flatten.length := ⟨_, rfl⟩
  have HN := Lib.hid hN
  rw [← hN] at htot
  have HG := Lib.hid (fun w => grow_nil N htot w)
  clear hT hm hN
  go_enter Tryz.func146, Tryz.ntmps146
  go_wp2
  go_loop [3, 11, 5] (fun s t _ => ∃ k : Nat, k ≤ m ∧ t = vi k ∧ s = vi ((ts.take k).flatten.length : Nat)) (fun _ t _ => m - (intOf t).toNat)
  case atStart => exact ⟨0, by omega, rfl, by simp⟩
  case round =>
    obtain ⟨k, hk, rfl, rfl⟩ := hrel
    have hle := flat_le ts k
    rw [← HN.out] at hle
    by_cases hkm : k < m
    · obtain ⟨ad, A1, n1, c1, rfl, hb1, hc1, hl1, hn1, _, _⟩ := HT.out k (by rw [HM.out]; exact hkm)
      have hft := flat_take (ts := ts) (k := k) (by rw [HM.out]; exact hkm)
      have hft2 := congrArg List.length hft
      rw [List.length_append, hl1] at hft2
      have hle2 := flat_le ts (k + 1)
      rw [← HN.out] at hle2
      obtain ⟨S, hS⟩ : ∃ S, S = (ts.take k).flatten.length := ⟨_, rfl⟩
      rw [← hS] at hft2 hle ⊢
      have k1 : (0 : Int) ≤ (k : Int) := by omega
      have k2 : (k : Int) < (m : Int) := by omega
      have s1 : (0 : Int) ≤ (S : Int) := by omega
      have s2 : (0 : Int) ≤ (S : Int) + (n1 : Int) := by omega
      have s3 : (S : Int) + (n1 : Int) ≤ 17592186044416 := by omega
      have HF := Lib.hid hft2
      clear hft hft2 hS hl1 hle2 hb1
      go_wp2
      go_round
      case rel => exact ⟨k + 1, by omega, by go_num, by rw [HF.out]; go_num⟩
      case measure => simp [intOf]; omega
    · have ek : k = m := by omega
      have hall : (ts.take k).flatten.length = N := by rw [ek, ← HM.out, List.take_length]; exact HN.out.symm
      rw [hall]
      have t1 : ¬ (k : Int) < (m : Int) := by omega
      clear ek hall hle
      go_wp2_with fail
      refine (HG.out w).mono ?_
      rintro _ w1 ⟨v, rfl, ho, hb⟩
      go_wp2
      go_loopw [6, 27, 8] (fun v t _ wr => ∃ k : Nat, k ≤ m ∧ t = vi k ∧ Own wr w.heap.size v (ts.take k).flatten ∧ Below w.heap.size w wr) (fun _ t _ _ => m - (intOf t).toNat)
      case atStart => exact ⟨0, by omega, rfl, ho, hb⟩
      case round =>
        clear ho hb
        obtain ⟨k, hk, rfl, ho, hb⟩ := hrel
        by_cases hkm : k < m
        · obtain ⟨ad, A1, n1, c1, rfl, hb1, hc1, hl1, hn1, hs1, _⟩ := HT.out k (by rw [HM.out]; exact hkm)
          have hc1r := (hb.cell (p := ad.add k) hb1).trans hc1
          have hft := flat_take (ts := ts) (k := k) (by rw [HM.out]; exact hkm)
          have hle2 := flat_le ts (k + 1)
          have hft2 := congrArg List.length hft
          rw [List.length_append, hl1] at hft2
          rw [← HN.out] at hle2
          have hlim : (ts.take k).flatten.length + n1 ≤ 17592186044416 := by omega
          have HF := Lib.hid hft
          have HL1 := Lib.hid hl1
          have HLIM := Lib.hid hlim
          have hs1r := hs1.below hb
          have k1 : (0 : Int) ≤ (k : Int) := by omega
          have k2 : (k : Int) < (m : Int) := by omega
          clear hft hft2 hle2 hlim hl1 hb1 hc1 hs1
          go_wp2_with (at_builtin; refine wpList_appA wr rfl _ _ rfl w.heap.size _ _ A1 n1 c1 _ rfl rfl HL1.out ho hs1r HLIM.out hb.size ?_; intro v' w2 hg)
          have ho2 := hg.own
          have hb2 := hg.below hb ho (Nat.le_refl _) hb.size
          rw [← HF.out] at ho2
          exact ⟨⟨k + 1, by omega, by go_num, ho2, hb2⟩, by simp [intOf]; omega⟩
        · have ek : k = m := by omega
          have hall : (ts.take k).flatten = ts.flatten := by rw [ek, ← HM.out, List.take_length]
          rw [hall] at ho
          have t1 : ¬ (k : Int) < (m : Int) := by omega
          clear ek hall
          go_wp2
          go_ret
          exact ⟨_, rfl, ho, hb⟩
end Go.Proofs.YtijhajkakmohnaaGreatDoor

/- The walks of package chain: told, New, Take, Draw, Draws, Place, Digest, Fork. -/
set_option linter.unusedVariables false
namespace Go.Proofs.YtijhajkakmohnaaGreatDoor
open Go.RowKit Zp

/-- append(v, ys...), at a step of a region that draws its order -/
theorem step_appA {ops : Array Oper} {o : Oper} {a : Act} {K : Act → World → Prop} {Q : Exit → Act → World → Prop} {E : Prop} (w : World) (hgd : o.guard = none) (s x : Operand)
    (ho : o.op = .call { callee := .builtin .append, args := #[s, x], argTypes := #[22, 22] })
    (base : Nat) (v : Value) (xs : List Int) (A : Option Addr) (m c : Nat) (ys : List Int) (hs : a.eval s = v) (hx : a.eval x = .slice A m c) (hm : ys.length = m) (hown : Own w base v xs) (hr : SL w A ys) (hlen : xs.length + m ≤ 17592186044416) (hbase : base ≤ w.heap.size)
    (h : ∀ v' w', Grew w w' base v v' (xs ++ ys) → K (a.put o.dst v') w') :
    if Region.wanted o (yielded ops a.tmps) = true then Oper.wp Tryz.prog o a w K Q else E := by
  have hw : Region.wanted o (yielded ops a.tmps) = true := by simp [Region.wanted, hgd]
  rw [if_pos hw]
  obtain ⟨v', w', hrun, hg⟩ := run_appA w base v xs A m c ys hm hown hr hlen hbase o.type
  unfold Oper.wp execOp
  simp only [ho, resolve, invoke, builtin, Sem.run_bind, Sem.run_pure, Result.andThen_ok, List.map_toArray, List.map_cons, List.map_nil, hs, hx, hrun]
  exact h v' w' hg
theorem firstA {w w2 : World} {x : Int} (hb2 : Below (w.alloc (.cells #[vi x] 3)).drew.heap.size (w.alloc (.cells #[vi x] 3)).drew w2) : Own w2 w.heap.size (.slice (some ⟨w.heap.size, 0, none⟩) 1 1) [x] :=
  Own.below (w := (w.alloc (.cells #[vi x] 3)).drew) (own_lit w w.heap.size [x] (Nat.le_refl _) (by simp [maxLen])) hb2
theorem firstB {w w2 : World} {x : Int} (h : w.heap.size ≤ w2.heap.size) : Own (w2.alloc (.cells #[vi x] 3)) w.heap.size (.slice (some ⟨w2.heap.size, 0, none⟩) 1 1) [x] :=
  own_lit w2 w.heap.size [x] h (by simp [maxLen])
theorem below_first (w : World) (x : Int) : Below w.heap.size w (w.alloc (.cells #[vi x] 3)).drew := below_drewN ((Below.refl _ _).alloc (Nat.le_refl _) _) 1
/-- the object of a chain -/
def ChO (w : World) (c s : Nat) (v : Value) : Prop := Blk w c 129 #[.pointer (some ⟨s, 0, none⟩), v]
/-- what is left of told -/
def ToldIs {p : Nat} [NeZero p] (c s : Nat) (D : Nat → Fin p) (w : World) (e : Ending) (w' : World) : Prop :=
  (∃ r, e = .returned r) ∧ ∃ g : Nat, ChO w' c s (.slice (some ⟨g, 0, none⟩) 4 4) ∧ Blk w' g 142 (st fun j => fv (D j)) ∧ w.heap.size ≤ g ∧ w.grownBy w' (some c)
set_option maxRecDepth 100000 in
set_option maxHeartbeats 8000000 in
theorem told_c (p S b s k z c : Nat) [NeZero p] (oo : Nat → Nat → Fin p) (first : Int) (hfi : I64 first) (A : Option Addr) (m cap : Nat) (ts : List (List Int)) (hm : ts.length = m) (hmm : m ≤ 1000000) (hI : ∀ x ∈ ts.flatten, I64 x) (htot : ts.flatten.length * 8 + 80 ≤ 140737488355328) (v : Value) (w : World) (F : Fld w S b p) (G : Spg w s b k z oo) (hS : S ≤ c) (hs : s < c) (hC : ChO w c s v) (hT : TB w A ts) :
    Calls Tryz.prog 114 #[.pointer (some ⟨c, 0, none⟩), vi first, .slice A m cap] w fun e w' => ToldIs c s (digE p k (first :: ts.flatten)) w e w' := by
  have hcl := Blk.lt hC
  have hcs : w.cell? ⟨c, 0, none⟩ = some (.pointer (some ⟨s, 0, none⟩)) := (Blk.cell hC 0).trans rfl
  have HCC := Lib.hid (fun W (hW : TB W A ts) => concat_any A m cap ts hm hmm (by omega) W hW)
  have HH := Lib.hid (fun W A n cp (hA : SL W A (first :: ts.flatten)) (hn : (first :: ts.flatten).length = n) (F : Fld W S b p) (G : Spg W s b k z oo) => hash_any p S b s k z oo A n cp (first :: ts.flatten) hn (by
    intro x hx
    rcases List.mem_cons.1 hx with rfl | hx
    · exact hfi
    · exact hI x hx) (by rw [List.length_cons] at hn; omega) W F G hA)
  have HF := Lib.hid F
  have HG := Lib.hid G
  have HT := Lib.hid hT
  have HC := Lib.hid hC
  obtain ⟨L, hL⟩ : ∃ L, L = ts.flatten := ⟨_, rfl⟩
  have hLl : L.length + 1 ≤ 17592186044416 := by rw [hL]; omega
  rw [← hL] at HCC HH ⊢
  clear hL F G hT hC hm hmm hI htot
  go_enter Tryz.func114, Tryz.ntmps114
  go_wp2_with fail
  have HTA := Lib.hid (HT.out.below (below_first w first))
  have hcsA : (w.alloc (.cells #[vi first] 3)).drew.cell? ⟨c, 0, none⟩ = some (.pointer (some ⟨s, 0, none⟩)) := ((below_first w first).cell (p := ⟨c, 0, none⟩) hcl).trans hcs
  go_region_held3 (fun w' => w'.cell? ⟨c, 0, none⟩ = some (.pointer (some ⟨s, 0, none⟩))) (first | exact hcs | exact hcsA | exact (World.cell?_setCell_other _ _ _ _ (by simp)).trans ((hb4.cell (p := ⟨c, 0, none⟩) hcl).trans hcs) | exact (hb4.cell (p := ⟨c, 0, none⟩) hcl).trans hcs | exact (hb3.cell (p := ⟨c, 0, none⟩) hcl).trans hcs | exact (hb2.cell (p := ⟨c, 0, none⟩) hcl).trans hcs | go_keep) ((first
    | (go_at_call 146; refine (HCC.out _ (by first | exact HT.out | exact HTA.out)).mono ?_; rintro _ w2 ⟨v2, rfl, ho2, hb2'⟩; obtain ⟨A2, n2, c2, rfl, hl2, _, _, hs2⟩ := ho2.shapeN; have HL2 := Lib.hid hl2; have hb2 : Below w.heap.size w w2 := (by first | exact hb2' | exact ⟨hb2'.os, hb2'.tape, hb2'.output, hb2'.size, hb2'.block⟩ | exact (below_first w first).trans (hb2'.mono (below_first w first).size)); have HB2 := Lib.hid hb2'; clear hl2 ho2 hb2')
    | (refine step_appA _ (by rfl) _ _ (by rfl) w.heap.size _ [first] A2 n2 c2 L (by rfl) (by rfl) HL2.out (firstA HB2.out) hs2 (by have := HL2.out; simp; omega) hb2.size ?_; intro v3 w3 hg3; have ho3 := hg3.own; have hb3 := hg3.below hb2 (firstA HB2.out) (Nat.le_refl _) hb2.size; obtain ⟨A3, n3, c3, rfl, hl3, _, _, hs3⟩ := ho3.shapeN; have HL3 := Lib.hid hl3; clear hl3 ho3 hg3)
    | (refine step_appA _ (by rfl) _ _ (by rfl) w.heap.size _ [first] A2 n2 c2 L (by rfl) (by rfl) HL2.out (firstB hb2.size) (hs2.below ((Below.refl _ w2).alloc (Nat.le_refl _) _)) (by have := HL2.out; simp; omega) (by have := hb2.size; simp; omega) ?_; intro v3 w3 hg3; have ho3 := hg3.own; have hb3 := hg3.below (hb2.alloc hb2.size _) (firstB hb2.size) (Nat.le_refl _) (by have := hb2.size; simp; omega); obtain ⟨A3, n3, c3, rfl, hl3, _, _, hs3⟩ := ho3.shapeN; have HL3 := Lib.hid hl3; clear hl3 ho3 hg3)
    | (go_at_call 102; refine (HH.out _ A3 n3 c3 hs3 HL3.out (HF.out.below hb3 HF.out.le) (HG.out.below hb3 (by omega))).mono ?_; rintro _ w4 ⟨g, rfl, hB4, hg4, hb4'⟩; have hb4 := hb3.trans (hb4'.mono hb3.size); have hC4 := Blk.below HC.out hb4 hcl; have cc1 := Blk.cell hC4 1; have cf1 := Blk.frozen hC4 1)))
  all_goals have hs34 := hb3.size
  all_goals have hgc : g ≠ c := by omega
  all_goals have hfin : ToldIs c s (digE p k (first :: L)) w (.returned undef) (w4.setCell ⟨c, 1, none⟩ (.slice (some ⟨g, 0, none⟩) 4 4)) := ⟨⟨_, rfl⟩, g, Blk.set_ hC4 1 (.slice (some ⟨g, 0, none⟩) 4 4), hB4.far (p := ⟨c, 1, none⟩) hgc _, by omega, grownBy_trans (grown_of_below hb4 _) blk_grown⟩
  all_goals have HFIN := Lib.hid hfin
  all_goals clear hfin
  all_goals go_wp2
  all_goals go_end0
  all_goals exact ⟨⟨_, rfl⟩, HFIN.out.2⟩
/-- a chain in memory, whose digest reads D -/

def Dty (t : TypeId) : Prop := t = 3 ∨ t = 142
theorem Dty.ne {t u : TypeId} (h : Dty t) (h1 : u ≠ 3) (h2 : u ≠ 142) : t ≠ u := fun e => by
  subst e
  rcases h with h | h
  · exact h1 h
  · exact h2 h
def Chn (w : World) (c s : Nat) (D : List Int) : Prop :=
  ∃ (g cap : Nat) (t : TypeId) (cs : Array Value), ChO w c s (.slice (some ⟨g, 0, none⟩) 4 cap) ∧ Blk w g t cs ∧ Dty t ∧ SL w (some ⟨g, 0, none⟩) D ∧ D.length = 4 ∧ 4 ≤ cap ∧ cap ≤ maxLen ∧ ∀ x ∈ D, I64 x
theorem Chn.far {w w' : World} {c s x : Nat} {D : List Int} {v : Value} (h : Chn w c s D) (hx : ChO w x s v) (hg : w.grownBy w' (some x)) (hne : c ≠ x) : Chn w' c s D := by
  obtain ⟨g, cap, t, cs, h1, h2, h3, h4, h5, h6, h7, h8⟩ := h
  have hgx : g ≠ x := Blk.ne_ h2 hx (h3.ne (by decide) (by decide))
  exact ⟨g, cap, t, cs, Blk.grown h1 hg (by intro e; injection e with e; exact hne e), h2.grown hg (by intro e; injection e with e; exact hgx e), h3, h4.far hg hgx, h5, h6, h7, h8⟩
theorem Chn.below {w w' : World} {c s : Nat} {D : List Int} (h : Chn w c s D) (hb : Below w.heap.size w w') : Chn w' c s D := by
  obtain ⟨g, cap, t, cs, h1, h2, h3, h4, h5, h6, h7, h8⟩ := h
  exact ⟨g, cap, t, cs, Blk.below h1 hb (Blk.lt h1), h2.below hb h2.lt, h3, h4.below hb, h5, h6, h7, h8⟩
theorem Chn.drewN {w : World} {c s : Nat} {D : List Int} (h : Chn w c s D) (n : Nat) : Chn (w.drewN n) c s D := h
theorem Chn.lt {w : World} {c s : Nat} {D : List Int} (h : Chn w c s D) : c < w.heap.size := by
  obtain ⟨g, cap, t, cs, h1, _⟩ := h
  exact Blk.lt h1
theorem Chn.obj {w : World} {c s : Nat} {D : List Int} (h : Chn w c s D) : ∃ v, ChO w c s v := by
  obtain ⟨g, cap, t, cs, h1, _⟩ := h
  exact ⟨_, h1⟩
/-- the digest lies elsewhere -/
def DigNe (w : World) (c x : Nat) : Prop := ∃ g cap : Nat, w.cell? ⟨c, 1, none⟩ = some (.slice (some ⟨g, 0, none⟩) 4 cap) ∧ g ≠ x
/-- the digest lies in new memory -/
def DigNew (w : World) (c B : Nat) : Prop := ∃ g cap : Nat, w.cell? ⟨c, 1, none⟩ = some (.slice (some ⟨g, 0, none⟩) 4 cap) ∧ B ≤ g
theorem DigNew.ne {w : World} {c B x : Nat} (h : DigNew w c B) (hx : x < B) : DigNe w c x := by
  obtain ⟨g, cap, h1, h2⟩ := h
  exact ⟨g, cap, h1, by omega⟩
theorem DigNew.less {w : World} {c B B' : Nat} (h : DigNew w c B) (hx : B' ≤ B) : DigNew w c B' := by
  obtain ⟨g, cap, h1, h2⟩ := h
  exact ⟨g, cap, h1, by omega⟩
theorem Chn.keepX {w w' : World} {c s x : Nat} {D : List Int} (h : Chn w c s D) (hg : w.grownBy w' (some x)) (hne : c ≠ x) (hd : DigNe w c x) : Chn w' c s D := by
  obtain ⟨g, cap, t, cs, h1, h2, h3, h4, h5, h6, h7, h8⟩ := h
  obtain ⟨g', cap', hc', hgx⟩ := hd
  have : w.cell? ⟨c, 1, none⟩ = some (.slice (some ⟨g, 0, none⟩) 4 cap) := (Blk.cell h1 1).trans rfl
  rw [this] at hc'
  injection hc' with hc'
  injection hc' with e _ _
  injection e with e
  injection e with e _ _
  subst e
  exact ⟨g, cap, t, cs, Blk.grown h1 hg (by intro e; injection e with e; exact hne e), h2.grown hg (by intro e; injection e with e; exact hgx e), h3, h4.far hg hgx, h5, h6, h7, h8⟩
/-- a step of a chain -/
def StepIs (c s : Nat) (D : List Int) (w : World) (e : Ending) (w' : World) : Prop := (∃ r, e = .returned r) ∧ Chn w' c s D ∧ w.grownBy w' (some c) ∧ DigNew w' c w.heap.size
theorem i64_digL {p k : Nat} [NeZero p] (hm : p ≤ 2147483647) (l : List Int) : ∀ x ∈ digL p k l, I64 x := by
  intro x hx
  obtain ⟨j, _, rfl⟩ := List.mem_map.1 hx
  exact i64_fv _ hm
theorem ToldIs.step {p k : Nat} [NeZero p] (hm : p ≤ 2147483647) {c s : Nat} {l : List Int} {w w' : World} {e : Ending} (h : ToldIs c s (digE p k l) w e w') : StepIs c s (digL p k l) w e w' := by
  obtain ⟨hr, g, h1, h2, h3, h4⟩ := h
  exact ⟨hr, ⟨g, 4, _, _, h1, h2, .inr rfl, dig_sl h2, digL_len _ _, Nat.le_refl _, by simp [maxLen], i64_digL hm l⟩, h4, ⟨g, 4, (Blk.cell h1 1).trans rfl, h3⟩⟩
theorem tb_lit1 {w : World} {A : Option Addr} {n c : Nat} {xs : List Int} (h : SL w A xs) (hl : xs.length = n) (hn : n < 9223372036854775808) (hI : ∀ x ∈ xs, I64 x) :
    TB (w.alloc (.cells #[.slice A n c] 22)) (some ⟨w.heap.size, 0, none⟩) [xs] := fun k hk => by
  have e : k = 0 := by simp at hk; omega
  subst e
  exact ⟨_, A, n, c, rfl, by simp [Addr.add], by rw [Addr.add_mid]; exact ((Blk.new w 22 #[.slice A n c]).cell 0).trans rfl, hl, hn, h.below ((Below.refl _ _).alloc (Nat.le_refl _) _), hI⟩
theorem tb_lit2 {w : World} {A B : Option Addr} {n c m d : Nat} {xs ys : List Int} (h : SL w A xs) (hl : xs.length = n) (hn : n < 9223372036854775808) (hI : ∀ x ∈ xs, I64 x) (h' : SL w B ys) (hl' : ys.length = m) (hn' : m < 9223372036854775808) (hI' : ∀ x ∈ ys, I64 x) :
    TB (w.alloc (.cells #[.slice A n c, .slice B m d] 22)) (some ⟨w.heap.size, 0, none⟩) [xs, ys] := fun k hk => by
  have hb : Below w.heap.size w (w.alloc (.cells #[.slice A n c, .slice B m d] 22)) := (Below.refl _ _).alloc (Nat.le_refl _) _
  match k, hk with
  | 0, _ => exact ⟨_, A, n, c, rfl, by simp [Addr.add], by rw [Addr.add_mid]; exact ((Blk.new w 22 #[.slice A n c, .slice B m d]).cell 0).trans rfl, hl, hn, h.below hb, hI⟩
  | 1, _ => exact ⟨_, B, m, d, rfl, by simp [Addr.add], by rw [Addr.add_mid]; exact ((Blk.new w 22 #[.slice A n c, .slice B m d]).cell 1).trans rfl, hl', hn', h'.below hb, hI'⟩
theorem grown_alloc {w w' : World} {o : Obj} {row : Option Nat} (h : (w.alloc o).grownBy w' row) : w.grownBy w' row := grownBy_trans (World.grownBy_alloc w o row) h
set_option maxRecDepth 100000 in
set_option maxHeartbeats 4000000 in
theorem chnew_any (p S b s k z : Nat) [NeZero p] (oo : Nat → Nat → Fin p) (A : Option Addr) (n cap : Nat) (l : List Int) (hn : l.length = n) (hI : ∀ x ∈ l, I64 x) (hr : n * 8 ≤ 140737488351232) (w : World) (F : Fld w S b p) (G : Spg w s b k z oo) (hs : SL w A l) :
    Calls Tryz.prog 59 #[.pointer (some ⟨s, 0, none⟩), .slice A n cap] w fun e w' => e = .returned (.pointer (some ⟨w.heap.size, 0, none⟩)) ∧ Chn w' w.heap.size s (digL p k (2 :: l)) ∧ Below w.heap.size w w' := by
  have hsl := block_lt_of_cell G.c0
  have hb1 : Below w.heap.size w (w.alloc (.cells #[.pointer (some ⟨s, 0, none⟩), .slice none 0 0] 129)) := (Below.refl _ _).alloc (Nat.le_refl _) _
  have hC := Blk.new w 129 #[.pointer (some ⟨s, 0, none⟩), .slice none 0 0]
  obtain ⟨W, hW⟩ : ∃ W, W = w.alloc (.cells #[.pointer (some ⟨s, 0, none⟩), .slice none 0 0] 129) := ⟨_, rfl⟩
  rw [← hW] at hb1 hC
  have hWs : W.heap.size = w.heap.size + 1 := by rw [hW]; simp
  have hb2 : Below W.heap.size W (W.alloc (.cells #[.slice A n cap] 22)) := (Below.refl _ _).alloc (Nat.le_refl _) _
  have hb12 := hb1.trans (hb2.mono hb1.size)
  have ht := told_c p S b s k z w.heap.size oo 2 ⟨by omega, by omega⟩ (some ⟨W.heap.size, 0, none⟩) 1 1 [l] rfl (by omega) (by simpa using hI) (by simp; omega) (.slice none 0 0) _ (F.below hb12 F.le) (G.below hb12 hsl) F.le hsl (Blk.below hC hb2 (by omega)) (tb_lit1 (hs.below hb1) hn (by omega) hI)
  rw [show [l].flatten = l by simp] at ht
  rw [hWs] at ht
  have HT := Lib.hid (ht.mono fun e w' h => h.step F.max)
  have HB := Lib.hid hb12
  rw [hW] at HT HB
  clear ht hb1 hb2 hb12 hC hWs hW F G hs hn hI
  go_enter Tryz.func59, Tryz.ntmps59
  go_wp2_with fail
  refine (HT.out).mono ?_
  rintro _ w3 ⟨⟨r, rfl⟩, hc3, hg3, hn3⟩
  clear hn3
  have HC := Lib.hid hc3
  have HG3 := Lib.hid (HB.out.grown hg3 HB.out.size (fun k hk => by injection hk with hk; omega))
  clear hc3 hg3
  go_wp2
  go_ret
  exact ⟨rfl, HC.out, HG3.out⟩
set_option maxRecDepth 100000 in
set_option maxHeartbeats 4000000 in
theorem chtake_any (p S b s k z c : Nat) [NeZero p] (oo : Nat → Nat → Fin p) (D : List Int) (A : Option Addr) (n cap : Nat) (l : List Int) (hn : l.length = n) (hI : ∀ x ∈ l, I64 x) (hr : n * 8 ≤ 140737488351232) (w : World) (F : Fld w S b p) (G : Spg w s b k z oo) (hS : S ≤ c) (hsc : s < c) (hC : Chn w c s D) (hs : SL w A l) :
    Calls Tryz.prog 63 #[.pointer (some ⟨c, 0, none⟩), .slice A n cap] w fun e w' => StepIs c s (digL p k (3 :: (D ++ l))) w e w' := by
  have hm := F.max
  obtain ⟨g, cg, t, cs, h1, h2, h3, h4, h5, h6, h7, h8⟩ := hC
  have hcd : w.cell? ⟨c, 1, none⟩ = some (.slice (some ⟨g, 0, none⟩) 4 cg) := (Blk.cell h1 1).trans rfl
  have hb : Below w.heap.size w (w.alloc (.cells #[.slice (some ⟨g, 0, none⟩) 4 cg, .slice A n cap] 22)) := (Below.refl _ _).alloc (Nat.le_refl _) _
  have ht := told_c p S b s k z c oo 3 ⟨by omega, by omega⟩ (some ⟨w.heap.size, 0, none⟩) 2 2 [D, l] rfl (by omega) (by
    intro x hx
    simp at hx
    rcases hx with hx | hx
    · exact h8 x hx
    · exact hI x hx) (by simp; omega) _ _ (F.below hb F.le) (G.below hb (Nat.lt_trans hsc (Blk.lt h1))) hS hsc (Blk.below h1 hb (Blk.lt h1)) (tb_lit2 h4 h5 (by omega) h8 hs hn (by omega) hI)
  rw [show [D, l].flatten = D ++ l by simp] at ht
  have HT := Lib.hid (ht.mono fun e w' h => h.step hm)
  clear ht h1 h2 h3 h4 h5 h6 h7 h8 hb F G hs hn hI
  go_enter Tryz.func63, Tryz.ntmps63
  go_wp2_with fail
  refine (HT.out).mono ?_
  rintro _ w3 ⟨⟨r, rfl⟩, hc3, hg3, hn3⟩
  have HR := Lib.hid (show StepIs c s (digL p k (3 :: (D ++ l))) w (.returned undef) w3 from ⟨⟨_, rfl⟩, hc3, grown_alloc hg3, hn3.less (by simp)⟩)
  clear hc3 hg3 hn3
  go_wp2
  go_end0
  exact ⟨⟨_, rfl⟩, HR.out.2⟩
/-- a chain told its digest -/
def drawnL (p k : Nat) [NeZero p] (D : List Int) : List Int := digL p k (4 :: D)
theorem drawnL_len {p k : Nat} [NeZero p] (D : List Int) : (drawnL p k D).length = 4 := digL_len _ _
def DrawIs {p : Nat} [NeZero p] (k c s : Nat) (D : List Int) (w : World) (e : Ending) (w' : World) : Prop := e = .returned (vi ((drawnL p k D).getD 0 0)) ∧ Chn w' c s (drawnL p k D) ∧ w.grownBy w' (some c) ∧ DigNew w' c w.heap.size
set_option maxRecDepth 100000 in
set_option maxHeartbeats 4000000 in
theorem chdraw_any (p S b s k z c : Nat) [NeZero p] (oo : Nat → Nat → Fin p) (D : List Int) (w : World) (F : Fld w S b p) (G : Spg w s b k z oo) (hS : S ≤ c) (hsc : s < c) (hC : Chn w c s D) :
    Calls Tryz.prog 64 #[.pointer (some ⟨c, 0, none⟩)] w fun e w' => DrawIs (p := p) k c s D w e w' := by
  have hm := F.max
  obtain ⟨g, cg, t, cs, h1, h2, h3, h4, h5, h6, h7, h8⟩ := hC
  have hcd : w.cell? ⟨c, 1, none⟩ = some (.slice (some ⟨g, 0, none⟩) 4 cg) := (Blk.cell h1 1).trans rfl
  have hb : Below w.heap.size w (w.alloc (.cells #[.slice (some ⟨g, 0, none⟩) 4 cg] 22)) := (Below.refl _ _).alloc (Nat.le_refl _) _
  have ht := told_c p S b s k z c oo 4 ⟨by omega, by omega⟩ (some ⟨w.heap.size, 0, none⟩) 1 1 [D] rfl (by omega) (by simpa using h8) (by simp; omega) _ _ (F.below hb F.le) (G.below hb (Nat.lt_trans hsc (Blk.lt h1))) hS hsc (Blk.below h1 hb (Blk.lt h1)) (tb_lit1 h4 h5 (by omega) h8)
  rw [show [D].flatten = D by simp] at ht
  have HT := Lib.hid (ht.mono fun e w' h => h.step hm)
  clear ht h1 h2 h3 h4 h5 h6 h7 h8 hb F G
  go_enter Tryz.func64, Tryz.ntmps64
  go_wp2_with fail
  refine (HT.out).mono ?_
  rintro _ w3 ⟨⟨r, rfl⟩, hc3, hg3, hn3⟩
  obtain ⟨g, cg, t, cs, h1, h2, h3, h4, h5, h6, h7, h8⟩ := id hc3
  have hcd3 : w3.cell? ⟨c, 1, none⟩ = some (.slice (some ⟨g, 0, none⟩) 4 cg) := (Blk.cell h1 1).trans rfl
  obtain ⟨X, hX⟩ : ∃ X, X = (drawnL p k D).getD 0 0 := ⟨_, rfl⟩
  have hg0 : w3.cell? ⟨g, 0, none⟩ = some (vi X) := by
    obtain ⟨ad, ea, _, hc⟩ := SL.at_ (k := 0) h4 (by rw [h5]; omega)
    injection ea with ea
    subst ea
    rw [Addr.add_mid] at hc
    rw [hX, hc]
    simp only [drawnL, List.getD, List.getElem?_eq_getElem (show 0 < (digL p k (4 :: D)).length by rw [h5]; omega), Option.getD_some]
  have HR := Lib.hid (show DrawIs (p := p) k c s D w (.returned (vi X)) w3 from ⟨by rw [hX], hc3, grown_alloc hg3, hn3.less (by simp)⟩)
  clear hc3 hg3 hn3 h1 h2 h3 h4 h5 h6 h7 h8 hX
  go_wp2
  go_ret
  exact HR.out
/-- the number below n that a digest gives -/
def placeV (p : Nat) (D : List Int) (n : Int) : Int := (D.getD 0 0 * p + D.getD 1 0) % n
def PlaceIs {p : Nat} [NeZero p] (k c s : Nat) (D : List Int) (n : Int) (w : World) (e : Ending) (w' : World) : Prop := e = .returned (vi (placeV p (drawnL p k D) n)) ∧ Chn w' c s (drawnL p k D) ∧ w.grownBy w' (some c)
theorem digL_bounds {p k : Nat} [NeZero p] (l : List Int) {j : Nat} (hj : j < 4) : ∃ x : Fin p, (digL p k l).getD j 0 = fv x := by
  refine ⟨digE p k l j, ?_⟩
  unfold digL
  simp [List.getD, hj]
set_option maxRecDepth 100000 in
theorem chplace_no (c : Nat) (n : Int) (hn : I64 n) (h : n < 1 ∨ 65536 < n) (w : World) :
    Calls Tryz.prog 116 #[.pointer (some ⟨c, 0, none⟩), vi n] w fun e w' => e = .returned (vi 0) ∧ w = w' := by
  obtain ⟨h1, h2⟩ := hn
  rcases h with h | h
  · go_enter Tryz.func116, Tryz.ntmps116
    go_wp2
    go_ret
    exact ⟨rfl, rfl⟩
  · have h3 : 1 ≤ n := by omega
    go_enter Tryz.func116, Tryz.ntmps116
    go_wp2
    go_ret
    exact ⟨rfl, rfl⟩
set_option maxRecDepth 100000 in
set_option maxHeartbeats 4000000 in
theorem chplace_any (p S b s k z c : Nat) [NeZero p] (oo : Nat → Nat → Fin p) (D : List Int) (n : Int) (hn1 : 1 ≤ n) (hn2 : n ≤ 65536) (w : World) (F : Fld w S b p) (G : Spg w s b k z oo) (hS : S ≤ c) (hsc : s < c) (hC : Chn w c s D) :
    Calls Tryz.prog 116 #[.pointer (some ⟨c, 0, none⟩), vi n] w fun e w' => PlaceIs (p := p) k c s D n w e w' := by
  have hm := F.max
  have hd := Lib.hid (chdraw_any p S b s k z c oo D w F G hS hsc hC)
  have HF := Lib.hid F
  have HG := Lib.hid G
  have hcw := hC.lt
  clear F G hC
  go_enter Tryz.func116, Tryz.ntmps116
  go_wp2_with fail
  refine (hd.out).mono ?_
  rintro _ w3 ⟨rfl, hc3, hg3, _⟩
  obtain ⟨x0, hx0⟩ := digL_bounds (p := p) (k := k) (4 :: D) (show 0 < 4 by omega)
  obtain ⟨x1, hx1⟩ := digL_bounds (p := p) (k := k) (4 :: D) (show 1 < 4 by omega)
  have hbc : Below c w w3 := (Below.refl c w).grown hg3 (by omega) (fun k hk => by injection hk with hk; omega)
  have hF3 := HF.out.below hbc hS
  have hG3 := HG.out.below hbc hsc
  obtain ⟨g, cg, t, cs, h1, h2, h3, h4, h5, h6, h7, h8⟩ := id hc3
  have hc0 : w3.cell? ⟨c, 0, none⟩ = some (.pointer (some ⟨s, 0, none⟩)) := (Blk.cell h1 0).trans rfl
  have hcd3 : w3.cell? ⟨c, 1, none⟩ = some (.slice (some ⟨g, 0, none⟩) 4 cg) := (Blk.cell h1 1).trans rfl
  have hg1 : w3.cell? ⟨g, 1, none⟩ = some (vi (fv x1)) := by
    obtain ⟨ad, ea, _, hc⟩ := SL.at_ (k := 1) h4 (by rw [h5]; omega)
    injection ea with ea
    subst ea
    rw [Addr.add_mid] at hc
    rw [hc, ← hx1]
    simp only [drawnL, List.getD, List.getElem?_eq_getElem (show 1 < (digL p k (4 :: D)).length by rw [digL_len]; omega), Option.getD_some]
  have e0 : (drawnL p k D).getD 0 0 = fv x0 := hx0
  have e1 : (drawnL p k D).getD 1 0 = fv x1 := hx1
  rw [e0]
  have a1 := fv_nonneg x0
  have a2 := fv_lt x0
  have b1 := fv_nonneg x1
  have b2 := fv_lt x1
  obtain ⟨M, hM⟩ : ∃ M, M = fv x0 * (p : Int) := ⟨_, rfl⟩
  have m1 : 0 ≤ M := by rw [hM]; exact Int.mul_nonneg a1 (by omega)
  have m2 : M ≤ 4611686018427387904 := by
    rw [hM]
    have := Int.mul_le_mul (show fv x0 ≤ 2147483647 by omega) (show (p : Int) ≤ 2147483647 by omega) (by omega) (by omega)
    omega
  have HR := Lib.hid (show PlaceIs (p := p) k c s D n w (.returned (vi ((M + fv x1) % n))) w3 from ⟨by unfold placeV; rw [e0, e1, hM], hc3, hg3⟩)
  have HFD := Lib.hid (fun a => sfield_s s b k z oo (w3.drewN a) (hG3.below (below_drewN (Below.refl _ _) a) (block_lt_of_cell hG3.c0)))
  have HPP := Lib.hid (fun a => p_any p b (w3.drewN a) (by exact hF3.c0))
  have w1 : IntKind.i64.wrap (fv x0 * (p : Int)) = M := by rw [← hM]; exact IntWalk.i64_in _ (by omega)
  have w2 : IntKind.i64.wrap (M + fv x1) = M + fv x1 := IntWalk.i64_in _ (by omega)
  have nz : ¬ n = 0 := by omega
  have tm : (M + fv x1).tmod n = (M + fv x1) % n := Int.tmod_eq_emod_of_nonneg (by omega)
  clear hM hx0 hx1 e0 e1 hc3 hg3 hbc hF3 hG3 h1 h2 h3 h4 h5 h6 h7 h8
  go_wp2
  go_quiet ((first | (go_at_call 45; exact quiet_eq (HFD.out _)) | (go_at_call 91; exact quiet_eq (HPP.out _))))
  go_wp2
  go_ret
  obtain ⟨r1, r2, r3⟩ := HR.out
  exact ⟨r1, r2, ⟨r3.os, r3.tape, r3.output, r3.size, r3.block⟩⟩
theorem own_blk {w : World} {base g n cap : Nat} {xs : List Int} (h : Own w base (.slice (some ⟨g, 0, none⟩) n cap) xs) : ∃ cs, Blk w g 3 cs := by
  rcases h.2 with ⟨e, _⟩ | ⟨g', cap', cur, e, _, hh, _⟩
  · cases e
  · injection e with e _ _
    injection e with e
    injection e with e _ _
    subst e
    exact ⟨cur, hh⟩
def DigestIs (D : List Int) (w : World) (e : Ending) (w' : World) : Prop := Made D w e w'
theorem chdigest_any (c s : Nat) (D : List Int) (w : World) (hC : Chn w c s D) :
    Calls Tryz.prog 25 #[.pointer (some ⟨c, 0, none⟩)] w fun e w' => Made D w e w' := by
  obtain ⟨g, cg, t, cs, h1, h2, h3, h4, h5, h6, h7, h8⟩ := hC
  have hc1 : w.cell? ⟨c, 1, none⟩ = some (.slice (some ⟨g, 0, none⟩) 4 cg) := (Blk.cell h1 1).trans rfl
  have HC := Lib.hid (clone_any (some ⟨g, 0, none⟩) 4 cg D h5 (by omega) w h4)
  clear h1 h2 h3 h4 h5 h6 h7 h8
  go_enter Tryz.func25, Tryz.ntmps25
  go_wp2_with fail
  refine (HC.out).mono ?_
  rintro _ w2 ⟨v2, rfl, ho2, hb2⟩
  go_wp2
  go_ret
  exact ⟨_, rfl, ho2, hb2⟩
end Go.Proofs.YtijhajkakmohnaaGreatDoor

/- The walks of the reference's chains: Step, Begin, Draw, Place. -/
set_option linter.unusedVariables false
namespace Go.Proofs.YtijhajkakmohnaaGreatDoor
open Go.RowKit Zp

/-- the reference's object of a chain -/
def RO (w : World) (m : Nat) (p : Int) (v : Value) : Prop := Blk w m 65 #[vi p, v]
/-- the reference's chain, by its digest -/
def RCh (w : World) (m : Nat) (p : Int) (D : List Int) : Prop :=
  ∃ (g cap : Nat) (cs : Array Value), RO w m p (.slice (some ⟨g, 0, none⟩) 4 cap) ∧ Blk w g 3 cs ∧ SL w (some ⟨g, 0, none⟩) D ∧ D.length = 4 ∧ 4 ≤ cap ∧ cap ≤ maxLen ∧ ∀ x ∈ D, I64 x
theorem RCh.lt {w : World} {m : Nat} {p : Int} {D : List Int} (h : RCh w m p D) : m < w.heap.size := by
  obtain ⟨g, cap, cs, h1, _⟩ := h
  exact Blk.lt h1
theorem RCh.below {w w' : World} {m : Nat} {p : Int} {D : List Int} (h : RCh w m p D) (hb : Below w.heap.size w w') : RCh w' m p D := by
  obtain ⟨g, cap, cs, h1, h2, h3, h4, h5, h6, h7⟩ := h
  exact ⟨g, cap, cs, Blk.below h1 hb (Blk.lt h1), h2.below hb h2.lt, h3.below hb, h4, h5, h6, h7⟩
/-- kept while another block, of another type than ints, is turned -/
theorem RCh.far {w w' : World} {m x : Nat} {p : Int} {D : List Int} {t : TypeId} {cx : Array Value} (h : RCh w m p D) (hx : Blk w x t cx) (ht : t ≠ 3) (hg : w.grownBy w' (some x)) (hne : m ≠ x) : RCh w' m p D := by
  obtain ⟨g, cap, cs, h1, h2, h3, h4, h5, h6, h7⟩ := h
  have hgx : g ≠ x := Blk.ne_ h2 hx (fun e => ht e.symm)
  exact ⟨g, cap, cs, Blk.grown h1 hg (by intro e; injection e with e; exact hne e), h2.grown hg (by intro e; injection e with e; exact hgx e), h3.far hg hgx, h4, h5, h6, h7⟩
/-- kept while other blocks are turned -/
theorem RCh.keepR {w w' : World} {m : Nat} {p : Int} {D : List Int} {row : Option Nat} (h : RCh w m p D) (hg : w.grownBy w' row) (hm : row ≠ some m) (hd : ∀ g cap, w.cell? ⟨m, 1, none⟩ = some (.slice (some ⟨g, 0, none⟩) 4 cap) → row ≠ some g) : RCh w' m p D := by
  obtain ⟨g, cap, cs, h1, h2, h3, h4, h5, h6, h7⟩ := h
  have hgx := hd g cap ((Blk.cell h1 1).trans rfl)
  refine ⟨g, cap, cs, Blk.grown h1 hg (fun e => hm e.symm), h2.grown hg (fun e => hgx e.symm), ?_, h4, h5, h6, h7⟩
  refine ⟨h3.1, fun hn => ?_⟩
  obtain ⟨ad, e, hb, hc⟩ := h3.2 hn
  injection e with e
  subst e
  exact ⟨_, rfl, Nat.lt_of_lt_of_le hb hg.size, fun j u hu => (World.cell?_of_block (by rw [block_of_add]; exact hg.block g h2.lt (fun e => hgx e.symm))).trans (hc j u hu)⟩
theorem grown_any {a b d : World} {c : Nat} {row : Option Nat} (h : a.grownBy b (some c)) (h' : b.grownBy d row) (hg : ∀ g, row = some g → a.heap.size ≤ g) : a.grownBy d (some c) :=
  ⟨h'.os.trans h.os, h'.tape.trans h.tape, h'.output.trans h.output, Nat.le_trans h.size h'.size, fun x hx hne => (h'.block x (Nat.lt_of_lt_of_le hx h.size) (fun e => by have := hg x e.symm; omega)).trans (h.block x hx hne)⟩
/-- what is left of a step -/
def RStepIs (m : Nat) (p : Int) (D : List Int) (w : World) (e : Ending) (w' : World) : Prop := (∃ r, e = .returned r) ∧ RCh w' m p D ∧ w.grownBy w' (some m) ∧ DigNew w' m w.heap.size
structure Pk (p k : Nat) : Prop where
  p3 : 3 ≤ p
  pm : p ≤ 2147483647
  k2 : 2 ≤ k
  kp : k < p
  least : ∀ j, 2 ≤ j → j < k → Nat.gcd j (p - 1) ≠ 1
  cop : Nat.gcd k (p - 1) = 1
set_option maxRecDepth 100000 in
set_option maxHeartbeats 2000000 in
theorem rstep_core (p k : Nat) [NeZero p] (K : Pk p k) (kind : Int) (hki : I64 kind) (m : Nat) (A : Option Addr) (nA cA : Nat) (D : List Int) (hD : D.length = nA) (hD4 : nA ≤ 4) (hDI : ∀ x ∈ D, I64 x) (B : Option Addr) (n cB : Nat) (l : List Int) (hl : l.length = n) (hlI : ∀ x ∈ l, I64 x) (hr : n * 8 ≤ 140737488351232) (w : World) (hm : RO w m p (.slice A nA cA)) (hsD : SL w A D) (hsl : SL w B l) :
    Calls Tryz.prog 72 #[.pointer (some ⟨m, 0, none⟩), vi kind, .slice B n cB] w fun e w' => RStepIs m p (digL p k (kind :: (D ++ l))) w e w' := by
  have hml := Blk.lt hm
  have hba : Below w.heap.size w (w.alloc (.cells #[vi kind] 3)) := (Below.refl _ _).alloc (Nat.le_refl _) _
  have ho1 : Own (w.alloc (.cells #[vi kind] 3)) w.heap.size (.slice (some ⟨w.heap.size, 0, none⟩) 1 1) [kind] := own_lit w w.heap.size [kind] (Nat.le_refl _) (by simp [maxLen])
  obtain ⟨W, hW⟩ : ∃ W, W = w.alloc (.cells #[vi kind] 3) := ⟨_, rfl⟩
  obtain ⟨b0, hb0⟩ : ∃ b0, b0 = w.heap.size := ⟨_, rfl⟩
  rw [← hW, ← hb0] at ho1
  rw [← hW] at hba
  have hWs : b0 < W.heap.size := by rw [hW, hb0]; simp
  have hmW := Blk.below hm hba hml
  have hm1 := (Blk.cell hmW 1).trans (show _ = some (Value.slice A nA cA) from rfl)
  have HSD := Lib.hid (hsD.below hba)
  have HSL := Lib.hid hsl
  have HMM := Lib.hid hm
  have HDL := Lib.hid hD
  have HLL := Lib.hid hl
  have HMW := Lib.hid hmW
  have HBA := Lib.hid hba
  have HH := Lib.hid (fun A n c (L : List Int) (h1 : L.length = n) h2 h3 W hs => rhash_dig p k K.p3 K.pm K.k2 K.kp K.least K.cop A n c L h1 h2 h3 W hs)
  have hI : ∀ x ∈ [kind] ++ D ++ l, I64 x := fun x hx => by
    simp at hx
    rcases hx with rfl | hx | hx
    · exact hki
    · exact hDI x hx
    · exact hlI x hx
  have HI := Lib.hid hI
  have HW := Lib.hid hW
  have HB0 := Lib.hid hb0
  have hWle : b0 ≤ W.heap.size := Nat.le_of_lt hWs
  clear hba hD hl hI hmW hm hsD hsl hW hb0 hDI hlI
  go_enter Tryz.func72, Tryz.ntmps72
  go_upto_region 1 with (fail)
  rw [← HW.out, ← HB0.out]
  go_wp2_with (first
    | (at_builtin; refine wpList_appA W rfl _ _ rfl b0 _ [kind] A nA cA D rfl rfl HDL.out ho1 HSD.out (by simp; omega) hWle ?_; intro v2 w2 hg2; have ho2 := hg2.own; have hb2 : Below w.heap.size w w2 := hg2.below HBA.out ho1 (by rw [HB0.out]; exact Nat.le_refl _) HBA.out.size; have hsl2 := HSL.out.below hb2; have hl2 : b0 ≤ w2.heap.size := (by rw [HB0.out]; exact hb2.size); have hmx : ([kind] ++ D).length + n ≤ 17592186044416 := (by simp [HDL.out]; omega); clear hg2)
    | (at_builtin; refine wpList_appA w2 rfl _ _ rfl b0 _ ([kind] ++ D) B n cB l rfl rfl HLL.out ho2 hsl2 hmx hl2 ?_; intro v3 w3 hg3; have ho3 := hg3.own; have hb3 : Below w.heap.size w w3 := hg3.below hb2 ho2 (by rw [HB0.out]; exact Nat.le_refl _) hb2.size; clear hg3; obtain ⟨A3, n3, c3, rfl, hl3, hc3, _, hs3⟩ := ho3.shapeN; have hm3 := Blk.below HMM.out hb3 hml; have cm0 := (Blk.cell hm3 0).trans (show _ = some (vi p) from rfl); have cm1 := (Blk.cell hm3 1).trans (show _ = some (Value.slice A nA cA) from rfl); have fm1 := Blk.frozen hm3 1))
  have hn3 : n3 = 1 + nA + n := by
    rw [← hl3]
    simp [HDL.out, HLL.out]
    omega
  have hh := HH.out A3 n3 c3 _ hl3 HI.out (by omega) w3 hs3
  have HHH := Lib.hid hh
  have HM3 := Lib.hid hm3
  have HB3 := Lib.hid hb3
  have hml3 := Blk.lt hm3
  clear hh hl3 hs3 ho3 hm3 hb3 hn3 ho2 hb2 hsl2 hl2 hmx
  refine (HHH.out).mono ?_
  rintro e w4 ⟨g, cap, cs, rfl, hcap, hcm, hsg, hbg, hgn, hb4⟩
  have hm4 := Blk.below HM3.out hb4 hml3
  have d1 := (Blk.cell hm4 1).trans (show _ = some (Value.slice A nA cA) from rfl)
  have f1 := Blk.frozen hm4 1
  have hset := Blk.set_ hm4 1 (.slice (some ⟨g, 0, none⟩) 4 cap)
  have hgm : g ≠ m := by omega
  have hbg' := hbg.far (p := ⟨m, 1, none⟩) hgm (.slice (some ⟨g, 0, none⟩) 4 cap)
  have hgr4 : w4.grownBy (w4.setCell ⟨m, 1, none⟩ (.slice (some ⟨g, 0, none⟩) 4 cap)) (some m) := ⟨rfl, rfl, rfl, by rw [World.size_setCell]; exact Nat.le_refl _, fun x hx hne => Below.heap_setCell w4 _ _ x (fun e => hne (by rw [e]))⟩
  have hsg' := hsg.far hgr4 hgm
  have hfin : RStepIs m p (digL p k (kind :: (D ++ l))) w (.returned undef) (w4.setCell ⟨m, 1, none⟩ (.slice (some ⟨g, 0, none⟩) 4 cap)) := by
    refine ⟨⟨_, rfl⟩, ⟨g, cap, cs, hset, hbg', ?_, digL_len _ _, hcap, hcm, i64_digL K.pm _⟩, ?_⟩
    · simpa using hsg'
    · have h := HB3.out.trans (hb4.mono HB3.out.size)
      refine ⟨⟨hgr4.os.trans h.os, hgr4.tape.trans h.tape, hgr4.output.trans h.output, Nat.le_trans h.size hgr4.size, fun x hx hne => (hgr4.block x (Nat.lt_of_lt_of_le hx h.size) hne).trans (h.block x hx)⟩, g, cap, (Blk.cell hset 1).trans rfl, Nat.le_trans HB3.out.size hgn⟩
  have HFIN := Lib.hid hfin
  clear hfin hset hbg' hgr4 hsg' hm4 hbg hsg
  go_wp2
  go_end0
  exact ⟨⟨_, rfl⟩, HFIN.out.2⟩
theorem rstep_any (p k : Nat) [NeZero p] (K : Pk p k) (kind : Int) (hki : I64 kind) (m : Nat) (D : List Int) (B : Option Addr) (n cB : Nat) (l : List Int) (hl : l.length = n) (hlI : ∀ x ∈ l, I64 x) (hr : n * 8 ≤ 140737488351232) (w : World) (hm : RCh w m p D) (hsl : SL w B l) :
    Calls Tryz.prog 72 #[.pointer (some ⟨m, 0, none⟩), vi kind, .slice B n cB] w fun e w' => RStepIs m p (digL p k (kind :: (D ++ l))) w e w' := by
  obtain ⟨g, cap, cs, h1, h2, h3, h4, h5, h6, h7⟩ := hm
  exact rstep_core p k K kind hki m _ 4 cap D h4 (Nat.le_refl _) h7 B n cB l hl hlI hr w h1 h3 hsl
set_option maxRecDepth 100000 in
set_option maxHeartbeats 2000000 in
theorem rbegin_any (p k : Nat) [NeZero p] (K : Pk p k) (B : Option Addr) (n cB : Nat) (l : List Int) (hl : l.length = n) (hlI : ∀ x ∈ l, I64 x) (hr : n * 8 ≤ 140737488351232) (w : World) (hsl : SL w B l) :
    Calls Tryz.prog 60 #[vi p, .slice B n cB] w fun e w' => e = .returned (.pointer (some ⟨w.heap.size, 0, none⟩)) ∧ RCh w' w.heap.size p (digL p k (2 :: l)) ∧ Below w.heap.size w w' := by
  have hba : Below w.heap.size w (w.alloc (.cells #[vi p, .slice none 0 0] 65)) := (Below.refl _ _).alloc (Nat.le_refl _) _
  have hO : RO (w.alloc (.cells #[vi p, .slice none 0 0] 65)) w.heap.size p (.slice none 0 0) := Blk.new w _ _
  have HS := Lib.hid (rstep_core p k K 2 ⟨by omega, by omega⟩ w.heap.size none 0 0 [] rfl (by omega) (by simp) B n cB l hl hlI hr _ hO SL.nil (hsl.below hba))
  have HB := Lib.hid hba
  clear hl hlI hO hba hsl K
  go_enter Tryz.func60, Tryz.ntmps60
  go_wp2_with fail
  refine (HS.out).mono ?_
  rintro e w2 ⟨⟨r, rfl⟩, hc, hg, hnew⟩
  have HC := Lib.hid hc
  have HG := Lib.hid (HB.out.grown hg HB.out.size (fun x hx => by injection hx with hx; omega))
  clear hc hg hnew
  go_wp2
  go_ret
  exact ⟨rfl, HC.out, HG.out⟩
def RDrawIs {p : Nat} [NeZero p] (k m : Nat) (D : List Int) (w : World) (e : Ending) (w' : World) : Prop := e = .returned (vi ((drawnL p k D).getD 0 0)) ∧ RCh w' m p (drawnL p k D) ∧ w.grownBy w' (some m) ∧ DigNew w' m w.heap.size
theorem RCh.dig {w : World} {m : Nat} {p : Int} {D : List Int} (h : RCh w m p D) : ∃ g cap, w.cell? ⟨m, 0, none⟩ = some (vi p) ∧ w.cell? ⟨m, 1, none⟩ = some (.slice (some ⟨g, 0, none⟩) 4 cap) ∧ w.cell? ⟨g, 0, none⟩ = some (vi (D.getD 0 0)) ∧ w.cell? ⟨g, 1, none⟩ = some (vi (D.getD 1 0)) := by
  obtain ⟨g, cap, cs, h1, h2, h3, h4, h5, h6, h7⟩ := h
  refine ⟨g, cap, (Blk.cell h1 0).trans rfl, (Blk.cell h1 1).trans rfl, ?_, ?_⟩
  · obtain ⟨ad, ea, _, hc⟩ := SL.at_ (k := 0) h3 (by rw [h4]; omega)
    injection ea with ea
    subst ea
    rw [Addr.add_mid] at hc
    rw [List.getD_eq_getElem?_getD, List.getElem?_eq_getElem (by omega), Option.getD_some]
    exact hc
  · obtain ⟨ad, ea, _, hc⟩ := SL.at_ (k := 1) h3 (by rw [h4]; omega)
    injection ea with ea
    subst ea
    rw [Addr.add_mid] at hc
    rw [List.getD_eq_getElem?_getD, List.getElem?_eq_getElem (by omega), Option.getD_some]
    exact hc
set_option maxRecDepth 100000 in
set_option maxHeartbeats 2000000 in
theorem rdraw_any (p k : Nat) [NeZero p] (K : Pk p k) (m : Nat) (D : List Int) (w : World) (hm : RCh w m p D) :
    Calls Tryz.prog 73 #[.pointer (some ⟨m, 0, none⟩)] w fun e w' => RDrawIs (p := p) k m D w e w' := by
  have hs := rstep_any p k K 4 ⟨by omega, by omega⟩ m D none 0 0 [] rfl (by simp) (by omega) w hm SL.nil
  rw [List.append_nil] at hs
  have HS := Lib.hid hs
  clear hs hm K
  go_enter Tryz.func73, Tryz.ntmps73
  go_wp2_with fail
  refine (HS.out).mono ?_
  rintro e w2 ⟨⟨r, rfl⟩, hc, hg, hnew⟩
  obtain ⟨g, cap, d0, d1, d2, d3⟩ := hc.dig
  have HC := Lib.hid hc
  have HG := Lib.hid hg
  have HR := Lib.hid (show RDrawIs (p := p) k m D w (.returned (vi ((digL p k (4 :: D)).getD 0 0))) w2 from ⟨rfl, hc, hg, hnew⟩)
  generalize (digL p k (4 :: D)).getD 0 0 = X at d2 HR
  clear hc hg d3 hnew
  go_wp2
  go_ret
  exact HR.out
def RPlaceIs {p : Nat} [NeZero p] (k m : Nat) (D : List Int) (n : Int) (w : World) (e : Ending) (w' : World) : Prop := e = .returned (vi (placeV p (drawnL p k D) n)) ∧ RCh w' m p (drawnL p k D) ∧ w.grownBy w' (some m)
theorem rplace_no (m : Nat) (n : Int) (hn : I64 n) (h : n < 1 ∨ 65536 < n) (w : World) :
    Calls Tryz.prog 123 #[.pointer (some ⟨m, 0, none⟩), vi n] w fun e w' => e = .returned (vi 0) ∧ w = w' := by
  obtain ⟨h1, h2⟩ := hn
  rcases h with h | h
  · go_enter Tryz.func123, Tryz.ntmps123
    go_wp2
    go_ret
    exact ⟨rfl, rfl⟩
  · have h3 : 1 ≤ n := by omega
    go_enter Tryz.func123, Tryz.ntmps123
    go_wp2
    go_ret
    exact ⟨rfl, rfl⟩
set_option maxRecDepth 100000 in
set_option maxHeartbeats 2000000 in
theorem rplace_any (p k : Nat) [NeZero p] (K : Pk p k) (m : Nat) (D : List Int) (n : Int) (hn1 : 1 ≤ n) (hn2 : n ≤ 65536) (w : World) (hm : RCh w m p D) :
    Calls Tryz.prog 123 #[.pointer (some ⟨m, 0, none⟩), vi n] w fun e w' => RPlaceIs (p := p) k m D n w e w' := by
  have hs := rstep_any p k K 4 ⟨by omega, by omega⟩ m D none 0 0 [] rfl (by simp) (by omega) w hm SL.nil
  rw [List.append_nil] at hs
  have HS := Lib.hid hs
  have hpm := K.pm
  clear hs hm K
  go_enter Tryz.func123, Tryz.ntmps123
  go_wp2_with fail
  refine (HS.out).mono ?_
  rintro e w2 ⟨⟨r, rfl⟩, hc, hg, hnew⟩
  obtain ⟨g, cap, d0, d1, d2, d3⟩ := hc.dig
  obtain ⟨x0, hx0⟩ := digL_bounds (p := p) (k := k) (4 :: D) (show 0 < 4 by omega)
  obtain ⟨x1, hx1⟩ := digL_bounds (p := p) (k := k) (4 :: D) (show 1 < 4 by omega)
  rw [hx0] at d2
  rw [hx1] at d3
  have a1 := fv_nonneg x0
  have a2 := fv_lt x0
  have b1 := fv_nonneg x1
  have b2 := fv_lt x1
  obtain ⟨M, hM⟩ : ∃ M, M = fv x0 * (p : Int) := ⟨_, rfl⟩
  have m1 : 0 ≤ M := by rw [hM]; exact Int.mul_nonneg a1 (by omega)
  have m2 : M ≤ 4611686018427387904 := by
    rw [hM]
    have := Int.mul_le_mul (show fv x0 ≤ 2147483647 by omega) (show (p : Int) ≤ 2147483647 by omega) (by omega) (by omega)
    omega
  have HR := Lib.hid (show RPlaceIs (p := p) k m D n w (.returned (vi ((M + fv x1) % n))) w2 from ⟨by unfold placeV; rw [show drawnL p k D = digL p k (4 :: D) from rfl, hx0, hx1, hM], hc, hg⟩)
  have w1 : IntKind.i64.wrap (fv x0 * (p : Int)) = M := by rw [← hM]; exact IntWalk.i64_in _ (by omega)
  have w2' : IntKind.i64.wrap (M + fv x1) = M + fv x1 := IntWalk.i64_in _ (by omega)
  have nz : ¬ n = 0 := by omega
  have tm : (M + fv x1).tmod n = (M + fv x1) % n := Int.tmod_eq_emod_of_nonneg (by omega)
  clear hM hx0 hx1 hc hg hnew
  go_wp2
  go_quiet (fail)
  go_wp2
  go_ret
  obtain ⟨r1, r2, r3⟩ := HR.out
  exact ⟨r1, r2, ⟨r3.os, r3.tape, r3.output, r3.size, r3.block⟩⟩
end Go.Proofs.YtijhajkakmohnaaGreatDoor

/- The walk of (*Domain).Values. -/
set_option linter.unusedVariables false
namespace Go.Proofs.YtijhajkakmohnaaGreatDoor
open Go.RowKit Zp

/-- a root of a power of two: the half of its order makes -1 -/
theorem root_cond {p : Nat} [NeZero p] (hp : IsPrime p) {n : Nat} (h : SizeOk p n) {r : Fin p} (hr : Ord r n) : n = 1 ∨ ∃ m, n = 2 * m ∧ pw r m = -1 := by
  obtain ⟨⟨k, _, e⟩, _⟩ := h
  cases k with
  | zero => exact .inl e
  | succ k =>
    have e2 : n = 2 * 2 ^ k := by rw [e, Nat.pow_succ, Nat.mul_comm]
    rw [e2] at hr
    exact .inr ⟨2 ^ k, e2, ord_half hp (Nat.pow_pos (by omega)) hr⟩


/-- a slice of n ints that is read alone -/
def GivesN (n : Nat) (xs : List Int) (w : World) (e : Ending) (w' : World) : Prop := ∃ A c, xs.length = n ∧ e = .returned (.slice A n c) ∧ n ≤ c ∧ c ≤ maxLen ∧ SL w' A xs ∧ Below w.heap.size w w'
theorem Gives.n {xs : List Int} {w w' : World} {e : Ending} (h : Gives xs w e w') {n : Nat} (hn : xs.length = n) : GivesN n xs w e w' := by
  obtain ⟨A, c, h1, h2, h3, h4, h5⟩ := h
  subst hn
  exact ⟨A, c, rfl, h1, h2, h3, h4, h5⟩
theorem SL.co {p : Nat} [NeZero p] {w : World} {A : Option Addr} {l : List (Fin p)} (h : SL w A (fvs l)) {k : Nat} (hk : k < l.length) : ∃ ad, A = some ad ∧ w.cell? (ad.add k) = some (vi (fv (co l k))) := by
  obtain ⟨ad, h1, _, h2⟩ := h.at_ (k := k) (by simpa using hk)
  exact ⟨ad, h1, by rw [h2, co_of_lt hk, List.getElem_map]⟩
end Go.Proofs.YtijhajkakmohnaaGreatDoor

/- Walks: bits.Len of powers of two, sums.variables. -/
set_option linter.unusedVariables false
namespace Go.Proofs.YtijhajkakmohnaaGreatDoor
open Go.RowKit Zp

set_option maxRecDepth 1000000 in
set_option maxHeartbeats 1000000 in
theorem len64_0 (w : World) :
    Calls Tryz.prog 157 #[.int .u64 1] w fun e w' => e = .returned (vi 1) ∧ w = w' := by
  go_enter Tryz.func157, Tryz.ntmps157
  go_wp2
  go_ret
  exact ⟨ret_int (by kernel_rfl), rfl⟩
set_option maxRecDepth 1000000 in
set_option maxHeartbeats 1000000 in
theorem len64_1 (w : World) :
    Calls Tryz.prog 157 #[.int .u64 2] w fun e w' => e = .returned (vi 2) ∧ w = w' := by
  go_enter Tryz.func157, Tryz.ntmps157
  go_wp2
  go_ret
  exact ⟨ret_int (by kernel_rfl), rfl⟩
set_option maxRecDepth 1000000 in
set_option maxHeartbeats 1000000 in
theorem len64_2 (w : World) :
    Calls Tryz.prog 157 #[.int .u64 4] w fun e w' => e = .returned (vi 3) ∧ w = w' := by
  go_enter Tryz.func157, Tryz.ntmps157
  go_wp2
  go_ret
  exact ⟨ret_int (by kernel_rfl), rfl⟩
set_option maxRecDepth 1000000 in
set_option maxHeartbeats 1000000 in
theorem len64_3 (w : World) :
    Calls Tryz.prog 157 #[.int .u64 8] w fun e w' => e = .returned (vi 4) ∧ w = w' := by
  go_enter Tryz.func157, Tryz.ntmps157
  go_wp2
  go_ret
  exact ⟨ret_int (by kernel_rfl), rfl⟩
set_option maxRecDepth 1000000 in
set_option maxHeartbeats 1000000 in
theorem len64_4 (w : World) :
    Calls Tryz.prog 157 #[.int .u64 16] w fun e w' => e = .returned (vi 5) ∧ w = w' := by
  go_enter Tryz.func157, Tryz.ntmps157
  go_wp2
  go_ret
  exact ⟨ret_int (by kernel_rfl), rfl⟩
set_option maxRecDepth 1000000 in
set_option maxHeartbeats 1000000 in
theorem len64_5 (w : World) :
    Calls Tryz.prog 157 #[.int .u64 32] w fun e w' => e = .returned (vi 6) ∧ w = w' := by
  go_enter Tryz.func157, Tryz.ntmps157
  go_wp2
  go_ret
  exact ⟨ret_int (by kernel_rfl), rfl⟩
set_option maxRecDepth 1000000 in
set_option maxHeartbeats 1000000 in
theorem len64_6 (w : World) :
    Calls Tryz.prog 157 #[.int .u64 64] w fun e w' => e = .returned (vi 7) ∧ w = w' := by
  go_enter Tryz.func157, Tryz.ntmps157
  go_wp2
  go_ret
  exact ⟨ret_int (by kernel_rfl), rfl⟩
set_option maxRecDepth 1000000 in
set_option maxHeartbeats 1000000 in
theorem len64_7 (w : World) :
    Calls Tryz.prog 157 #[.int .u64 128] w fun e w' => e = .returned (vi 8) ∧ w = w' := by
  go_enter Tryz.func157, Tryz.ntmps157
  go_wp2
  go_ret
  exact ⟨ret_int (by kernel_rfl), rfl⟩
set_option maxRecDepth 1000000 in
set_option maxHeartbeats 1000000 in
theorem len64_8 (w : World) :
    Calls Tryz.prog 157 #[.int .u64 256] w fun e w' => e = .returned (vi 9) ∧ w = w' := by
  go_enter Tryz.func157, Tryz.ntmps157
  go_wp2
  go_ret
  exact ⟨ret_int (by kernel_rfl), rfl⟩
set_option maxRecDepth 1000000 in
set_option maxHeartbeats 1000000 in
theorem len64_9 (w : World) :
    Calls Tryz.prog 157 #[.int .u64 512] w fun e w' => e = .returned (vi 10) ∧ w = w' := by
  go_enter Tryz.func157, Tryz.ntmps157
  go_wp2
  go_ret
  exact ⟨ret_int (by kernel_rfl), rfl⟩
set_option maxRecDepth 1000000 in
set_option maxHeartbeats 1000000 in
theorem len64_10 (w : World) :
    Calls Tryz.prog 157 #[.int .u64 1024] w fun e w' => e = .returned (vi 11) ∧ w = w' := by
  go_enter Tryz.func157, Tryz.ntmps157
  go_wp2
  go_ret
  exact ⟨ret_int (by kernel_rfl), rfl⟩
set_option maxRecDepth 1000000 in
set_option maxHeartbeats 1000000 in
theorem len64_11 (w : World) :
    Calls Tryz.prog 157 #[.int .u64 2048] w fun e w' => e = .returned (vi 12) ∧ w = w' := by
  go_enter Tryz.func157, Tryz.ntmps157
  go_wp2
  go_ret
  exact ⟨ret_int (by kernel_rfl), rfl⟩
set_option maxRecDepth 1000000 in
set_option maxHeartbeats 1000000 in
theorem len64_12 (w : World) :
    Calls Tryz.prog 157 #[.int .u64 4096] w fun e w' => e = .returned (vi 13) ∧ w = w' := by
  go_enter Tryz.func157, Tryz.ntmps157
  go_wp2
  go_ret
  exact ⟨ret_int (by kernel_rfl), rfl⟩
end Go.Proofs.YtijhajkakmohnaaGreatDoor

/- Walks: Point, Half, fold.one, folded, Fold. -/
set_option linter.unusedVariables false
namespace Go.Proofs.YtijhajkakmohnaaGreatDoor
open Go.RowKit Zp

set_option maxRecDepth 100000 in
set_option maxHeartbeats 1000000 in
theorem point_any (p S D b : Nat) [NeZero p] (n : Nat) (s : Fin p) (i : Int) (hi : I64 i) (w : World) (hD : Dom w S D b p n s) :
    Calls Tryz.prog 122 #[.pointer (some ⟨D, 0, none⟩), vi i] w fun e w' => e = .returned (vi (fv (s * pw (rootI p n) (i % (n : Int)).toNat))) ∧ ∃ k, w' = w.drewN k := by
  have hp1 := hD.fld.two
  have hp2 := hD.fld.max
  have hn0 := hD.size.pos
  have hn1 := hD.size.le
  have hd0 := hD.c0
  have hd1 := hD.c1
  have hd2 := hD.c2
  have hd3 := hD.c3
  have hcb := hD.fld.c0
  obtain ⟨r, hr⟩ : ∃ r, r = rootI p n := ⟨_, rfl⟩
  rw [← hr] at hd3 ⊢
  obtain ⟨j, hj⟩ : ∃ j, j = (i % (n : Int)).toNat := ⟨_, rfl⟩
  rw [← hj]
  have ht := tmod_emod i n hn0
  have h1 := Int.emod_nonneg i (b := (n : Int)) (by omega)
  have h2 := Int.emod_lt_of_pos i (b := (n : Int)) (by omega)
  have hjI : I64 (j : Int) := ⟨by omega, by omega⟩
  have hz : zpw r (j : Int) = pw r j := by rw [zpw, if_pos (by omega), Int.toNat_natCast]
  have hpow := fun W hc => pow_any p hp1 hp2 b (fv r) j (i64_fv r hp2) hjI W hc
  rw [el_fv, hz] at hpow
  have hmul := fun W hc => mul_any p hp2 b (fv s) (fv (pw r j)) (i64_fv s hp2) (i64_fv _ hp2) W hc
  rw [el_fv, el_fv] at hmul
  have HPOW := Lib.hid hpow
  have HMUL := Lib.hid hmul
  have hn0' : ¬ n = 0 := by omega
  obtain ⟨T, hT⟩ : ∃ T, T = i.tmod n := ⟨_, rfl⟩
  have b1 : -(n : Int) < T := by rw [hT, ht]; split <;> (try split) <;> omega
  have b2 : T < n := by rw [hT, ht]; split <;> (try split) <;> omega
  have hTj : T = j ∨ (T < 0 ∧ T + n = j) := by
    rw [hT, ht]
    split
    · left; omega
    · split
      · left; omega
      · right; omega
  have et : i.tmod (n : Int) = T := hT.symm
  clear hpow hmul hz ht hj hT hr
  rcases hTj with hTj | ⟨hT0, hTj⟩
  · subst hTj
    go_enter Tryz.func122, Tryz.ntmps122
    go_wp2
    go_quiet ((first | (go_at_call 167; exact Calls.quiet_of (HPOW.out _ (by exact hcb))) | (go_at_call 115; exact Calls.quiet_of (HMUL.out _ (by exact hcb)))))
    go_wp2
    go_ret
    exact ⟨rfl, _, rfl⟩
  · go_enter Tryz.func122, Tryz.ntmps122
    go_wp2
    go_quiet ((first | (go_at_call 167; exact Calls.quiet_of (HPOW.out _ (by exact hcb))) | (go_at_call 115; exact Calls.quiet_of (HMUL.out _ (by exact hcb)))))
    go_wp2
    go_ret
    exact ⟨rfl, _, rfl⟩

set_option maxRecDepth 100000 in
set_option maxHeartbeats 2000000 in
theorem one_any (p S D b : Nat) [NeZero p] (n : Nat) (s : Fin p) (i : Nat) (hin : i < n) (x y r : Int) (hx : I64 x) (hy : I64 y) (hr : I64 r) (w : World) (hD : Dom w S D b p n s) :
    Calls Tryz.prog 120 #[.pointer (some ⟨D, 0, none⟩), vi i, vi x, vi y, vi r] w fun e w' => e = .returned (vi (fv (foldE (el p x) (el p y) (el p r) (s * pw (rootI p n) i)))) ∧ ∃ k, w' = w.drewN k := by
  have hp1 := hD.fld.two
  have hp2 := hD.fld.max
  have hn1 := hD.size.le
  have hd0 := hD.c0
  have hcb := hD.fld.c0
  have hiI : I64 (i : Int) := ⟨by omega, by omega⟩
  have hpt := fun k => point_any p S D b n s i hiI (w.drewN k) (hD.drewN k)
  have ej : ((i : Int) % (n : Int)).toNat = i := by rw [Int.emod_eq_of_lt (by omega) (by omega)]; rfl
  rw [ej] at hpt
  have HPT := Lib.hid hpt
  obtain ⟨X, hX⟩ : ∃ X, X = s * pw (rootI p n) i := ⟨_, rfl⟩
  rw [← hX] at HPT ⊢
  have h2I : I64 2 := by constructor <;> decide
  clear hpt ej hX
  go_enter Tryz.func120, Tryz.ntmps120
  go_wp2_with fail
  refine (inv_any p hp1 hp2 b 2 h2I _ hcb).mono ?_
  rintro e w' ⟨rfl, rfl⟩
  go_wp2
  have iH := i64_fv (Zp.inv (el p 2)) hp2
  go_quiet ((first | (go_at_call 144; exact Calls.quiet_of (add_any p hp2 b _ _ (by first | assumption | exact i64_fv _ hp2) (by first | assumption | exact i64_fv _ hp2) _ (by exact hcb))) | (go_at_call 115; exact Calls.quiet_of (mul_any p hp2 b _ _ (by first | assumption | exact i64_fv _ hp2) (by first | assumption | exact i64_fv _ hp2) _ (by exact hcb)))))
  go_wp2
  go_quiet ((first | (go_at_call 139; exact quiet_eq2 (sub_any p hp2 b _ _ (by first | assumption | exact i64_fv _ hp2) (by first | assumption | exact i64_fv _ hp2) _ (by exact hcb))) | (go_at_call 115; exact quiet_of2 (mul_any p hp2 b _ _ (by first | assumption | exact i64_fv _ hp2) (by first | assumption | exact i64_fv _ hp2) _ (by exact hcb))) | (go_at_call 122; exact quiet_of2 (HPT.out _)) | (go_at_call 94; exact quiet_eq2 (inv_any p hp1 hp2 b _ (by first | assumption | exact i64_fv _ hp2) _ (by exact hcb)))))
  go_wp2
  go_quiet ((first | (go_at_call 144; exact quiet_of2 (add_any p hp2 b _ _ (by first | assumption | exact i64_fv _ hp2) (by first | assumption | exact i64_fv _ hp2) _ (by exact hcb))) | (go_at_call 115; exact quiet_of2 (mul_any p hp2 b _ _ (by first | assumption | exact i64_fv _ hp2) (by first | assumption | exact i64_fv _ hp2) _ (by exact hcb)))))
  go_wp2
  go_ret
  exact ⟨ret_int (by simp only [el_fv]; rfl), _, (World.drewN_drewN _ _ _).trans (World.drewN_drewN _ _ _)⟩

theorem half_one (p S D b : Nat) [NeZero p] (s : Fin p) (w : World) (hD : Dom w S D b p 1 s) :
    Calls Tryz.prog 62 #[.pointer (some ⟨D, 0, none⟩)] w fun e w' => e = NoDom 2 ∧ w = w' := by
  have hd1 := hD.c1
  have t1 : (((1 : Nat) : Int) == 1) = true := rfl
  go_enter Tryz.func62, Tryz.ntmps62
  go_wp2
  go_ret2
  exact ⟨rfl, rfl⟩

theorem sizeOk_half {p h : Nat} (hs : SizeOk p (2 * h)) (hh : 0 < h) : SizeOk p h := by
  obtain ⟨⟨k, hk, e⟩, hd⟩ := hs
  refine ⟨?_, Nat.dvd_trans ⟨2, by omega⟩ hd⟩
  cases k with
  | zero => simp at e; omega
  | succ k =>
    refine ⟨k, by omega, ?_⟩
    rw [Nat.pow_succ] at e
    omega

set_option maxRecDepth 100000 in
set_option maxHeartbeats 1000000 in
theorem half_any (p S D b : Nat) [NeZero p] (n h : Nat) (hn : n = 2 * h) (hh : 0 < h) (s : Fin p) (w : World) (hD : Dom w S D b p n s) :
    Calls Tryz.prog 62 #[.pointer (some ⟨D, 0, none⟩)] w fun e w' => MadeDom p b h (fv (s * s)) w e w' := by
  have hp2 := hD.fld.max
  have hn1 := hD.size.le
  have hp := hD.fld.prime
  have hd0 := hD.c0
  have hd1 := hD.c1
  have hd2 := hD.c2
  have hcb := hD.fld.c0
  have hso : SizeOk p h := sizeOk_half (by rw [← hn]; exact hD.size) hh
  have hmul := fun W hc => mul_any p hp2 b (fv s) (fv s) (i64_fv s hp2) (i64_fv s hp2) W hc
  rw [el_fv] at hmul
  have hnew := fun k => dnew_ok p S b h (fv (s * s)) (i64_fv _ hp2) hso (by rw [el_fv]; exact mul_ne_zero hp hD.s0 hD.s0) (w.drewN k) (hD.fld.drewN k)
  have HMUL := Lib.hid hmul
  have HNEW := Lib.hid hnew
  have hDl : D < w.heap.size := Nat.lt_of_lt_of_le hD.lt hD.le
  have t1 : ((n : Int) == 1) = false := by rw [beq_eq_false_iff_ne]; omega
  have t2 : (n : Int).tdiv 2 = (h : Int) := by rw [Int.tdiv_eq_ediv_of_nonneg (by omega)]; omega
  have t3 : (n : Int) / 2 = (h : Int) := by omega
  have t4 : IntKind.i64.wrap (h : Int) = (h : Int) := IntWalk.i64_in _ (by constructor <;> omega)
  clear hmul hnew hn hso
  go_enter Tryz.func62, Tryz.ntmps62
  go_wp2
  go_region_held3 (fun w' => w'.cell? ⟨D, 0, none⟩ = some (.pointer (some ⟨b, 0, none⟩)) ∧ w'.cell? ⟨D, 1, none⟩ = some (vi n) ∧ w'.cell? ⟨D, 2, none⟩ = some (vi (fv s))) (first | exact ⟨hd0, hd1, hd2⟩ | exact ⟨(hb2.cell (p := ⟨D, 0, none⟩) hDl).trans hd0, (hb2.cell (p := ⟨D, 1, none⟩) hDl).trans hd1, (hb2.cell (p := ⟨D, 2, none⟩) hDl).trans hd2⟩) ((first | (go_at_call 115; refine (HMUL.out _ (by exact hcb)).mono ?_; rintro e w' ⟨rfl, k3, rfl⟩) | (go_at_call 56; refine (HNEW.out _).mono ?_; rintro e w' ⟨D2, rfl, hD2, hb2, hle2⟩)))
  go_wp2
  go_ret2
  exact ⟨D2, rfl, hD2, (below_drewN (Below.refl _ w) _).trans hb2, hle2⟩

def FoldRel {p : Nat} [NeZero p] (l : List (Fin p)) (h : Nat) (w : World) (v i : Value) (wr : World) : Prop := ∃ k g : Nat, k ≤ h ∧ i = vi k ∧ v = .slice (some ⟨g, 0, none⟩) k h ∧ Own wr w.heap.size v ((fvs l).take k) ∧ Below w.heap.size w wr

/-- append of one int within the capacity, at a step of a region that draws its order -/
theorem step_app1_fits {ops : Array Oper} {o : Oper} {a : Act} {K : Act → World → Prop} {Q : Exit → Act → World → Prop} {E : Prop} (w W : World) (n : Int) (hW : W = w.alloc (.cells #[vi n] 3)) (hgd : o.guard = none) (s x : Operand)
    (ho : o.op = .call { callee := .builtin .append, args := #[s, x], argTypes := #[22, 22] })
    (base g k cap : Nat) (xs : List Int) (hs : a.eval s = .slice (some ⟨g, 0, none⟩) k cap) (hx : a.eval x = .slice (some ⟨w.heap.size, 0, none⟩) 1 1) (hown : Own w base (.slice (some ⟨g, 0, none⟩) k cap) xs) (hk : k = xs.length) (hroom : k < cap)
    (h : ∀ w', Own w' base (.slice (some ⟨g, 0, none⟩) (k + 1) cap) (xs ++ [n]) → w.grownBy w' (some g) → K (a.put o.dst (.slice (some ⟨g, 0, none⟩) (k + 1) cap)) w') :
    if Region.wanted o (yielded ops a.tmps) = true then Oper.wp Tryz.prog o a W K Q else E := by
  have hw : Region.wanted o (yielded ops a.tmps) = true := by simp [Region.wanted, hgd]
  rw [if_pos hw]
  subst hk hW
  obtain ⟨i0, hi, hz0, hz1, hz2⟩ := info_parts info_int
  obtain ⟨w', hrun, h2, h3⟩ := run_append_fits (P := Tryz.prog) (w.alloc (.cells #[vi n] 3)) base 22 o.type 3 i0 1 Tryz.underlying22 hi hz1 g xs.length cap (xs.map vi) (hown.alloc _)
    ⟨w.heap.size, 0, none⟩ 1 1 [vi n] rfl (cell_one_new _ _ _) (by simp [Value.oneCell']) (by omega)
  unfold Oper.wp execOp
  simp only [ho, resolve, invoke, builtin, Sem.run_bind, Sem.run_pure, Result.andThen_ok, List.map_toArray, List.map_cons, List.map_nil, hs, hx, hrun]
  refine h w' ?_ (grownBy_trans (World.grownBy_alloc w _ _) h3)
  have e : (xs ++ [n]).length = xs.length + 1 := by simp
  rw [Own, e, List.map_append]
  exact h2

set_option maxRecDepth 100000 in
set_option maxHeartbeats 2000000 in
theorem folded_any (p S D b : Nat) [NeZero p] (n h : Nat) (hn : n = 2 * h) (hh : 0 < h) (s : Fin p) (A : Option Addr) (cap : Nat) (xs : List Int) (hml : xs.length = n) (hxs : ∀ x ∈ xs, I64 x) (r : Int) (hr : I64 r) (w : World) (hD : Dom w S D b p n s) (hs : SL w A xs) :
    Calls Tryz.prog 81 #[.pointer (some ⟨D, 0, none⟩), .slice A n cap, vi r] w fun e w' => Made (fvs (foldL s (rootI p n) h (els p xs) (el p r))) w e w' := by
  have hp2 := hD.fld.max
  have hn1 := hD.size.le
  have hd1 := hD.c1
  have hmk := make_ints0 h (by omega)
  have hone := fun (i : Nat) (hi : i < n) (x y : Int) (hx : I64 x) (hy : I64 y) (W : World) hDW => one_any p S D b n s i hi x y r hx hy hr W hDW
  have HONE := Lib.hid hone
  have hDle := hD.le
  have HML := Lib.hid hml
  have HN := Lib.hid hn
  have hhn : h < n := by omega
  obtain ⟨l, hl⟩ : ∃ l, l = foldL s (rootI p n) h (els p xs) (el p r) := ⟨_, rfl⟩
  rw [← hl]
  have hll : l.length = h := by rw [hl, foldL_length]
  have HLL := Lib.hid hll
  have HL := Lib.hid hl
  have t2 : (n : Int).tdiv 2 = (h : Int) := by rw [Int.tdiv_eq_ediv_of_nonneg (by omega)]; omega
  have t3 : (n : Int) / 2 = (h : Int) := by omega
  clear hone hml hn hl hll
  go_enter Tryz.func81, Tryz.ntmps81
  go_wp2_with fail
  refine (size_any D n _ hd1).mono ?_
  rintro e w' ⟨rfl, rfl⟩
  go_wp2
  clear t2 t3
  go_loopw [8, 16] (fun v i wr => FoldRel l h w v i wr) (fun _ i _ => h - (intOf i).toNat)
  case atStart => exact ⟨0, w.heap.size, Nat.zero_le _, rfl, rfl, own_made0 w _ h (Nat.le_refl _) (by omega), (Below.refl _ _).alloc (Nat.le_refl _) _⟩
  case round =>
    obtain ⟨k, g, hk, rfl, rfl, hown, hb⟩ := hrel
    have hDr := hD.below hb hDle
    by_cases hkh : k < h
    · have hsw := hs.below hb
      have hkx : k < xs.length := by rw [HML.out]; omega
      have hkx2 : k + h < xs.length := by rw [HML.out, HN.out]; omega
      obtain ⟨ad, rfl, _, hc1⟩ := hsw.at_ hkx
      obtain ⟨ad', he, _, hc2⟩ := hsw.at_ hkx2
      injection he with he
      subst he
      obtain ⟨ad2, he2, hab, _⟩ := hs.at_ hkx
      injection he2 with he2
      subst he2
      have hgl := (hown.lt g rfl).1
      have hk1 : some (ad.add k).block ≠ some g := by rw [block_of_add]; intro e; injection e with e; omega
      have hk2 : some (ad.add (k + h)).block ≠ some g := by rw [block_of_add]; intro e; injection e with e; omega
      have ix := hxs _ (List.getElem_mem hkx)
      have iy := hxs _ (List.getElem_mem hkx2)
      have hcx : co (els p xs) k = el p xs[k] := by rw [co_of_lt (by simpa using hkx)]; simp
      have hcy : co (els p xs) (k + h) = el p xs[k + h] := by rw [co_of_lt (by simpa using hkx2)]; simp
      have h2 := map_take_succ fv l k (by rw [HLL.out]; exact hkh)
      have h3 : l[k]'(by rw [HLL.out]; exact hkh) = foldE (co (els p xs) k) (co (els p xs) (k + h)) (el p r) (s * pw (rootI p n) k) := by
        rw [← co_of_lt (by rw [HLL.out]; exact hkh), HL.out, foldL, co_tab, if_pos hkh]
      obtain ⟨x, hx⟩ : ∃ x, x = xs[k] := ⟨_, rfl⟩
      obtain ⟨y, hy⟩ : ∃ y, y = xs[k + h] := ⟨_, rfl⟩
      rw [← hx] at hc1 ix hcx
      rw [← hy] at hc2 iy hcy
      rw [h3, hcx, hcy] at h2
      have h1 := fun W hDW => HONE.out k (by omega) x y ix iy W hDW
      obtain ⟨Z, hZ⟩ : ∃ Z, Z = foldE (el p x) (el p y) (el p r) (s * pw (rootI p n) k) := ⟨_, rfl⟩
      rw [← hZ] at h1 h2
      have hlk : ((fvs l).take k).length = k := by rw [List.length_take, List.length_map, HLL.out]; omega
      have H1 := Lib.hid h1
      have H2 := Lib.hid h2
      have HLK := Lib.hid hlk
      have i1 : (0 : Int) ≤ k := by omega
      have i2 : (k : Int) < n := by omega
      have i3 : (0 : Int) ≤ (k : Int) + h := by omega
      have i4 : (k : Int) + h < n := by have := HN.out; omega
      have i5 : ((k : Int) + h).toNat = k + h := by omega
      have i6 : IntKind.i64.wrap ((k : Int) + h) = (k : Int) + h := IntWalk.i64_in _ (by constructor <;> omega)
      clear h1 h2 h3 hx hy hcx hcy hZ hlk
      go_wp2
      go_region_held3 (fun w' => w'.cell? (ad.add k) = some (vi x) ∧ w'.cell? (ad.add (k + h)) = some (vi y)) (first | exact ⟨hc1, hc2⟩ | go_keep | exact ⟨hg.cell hc1 hk1, hg.cell hc2 hk2⟩) ((first | (go_at_call 120; refine (H1.out _ (hDr.drewN _)).mono ?_; rintro e w' ⟨rfl, k3, rfl⟩) | (refine step_app1_fits _ _ (fv Z) (by rfl) (by rfl) _ _ (by rfl) w.heap.size g k h _ (by rfl) (by rfl) (hown.drewN _) HLK.out.symm hkh ?_; intro w1 hown1 hg)))
      go_wp2
      go_roundw
      case rel => exact ⟨k + 1, g, by omega, by go_num, rfl, by rw [← H2.out]; exact hown1, (below_drewN hb _).grown hg hb.size (fun j hj => by injection hj with hj; subst hj; exact hgl)⟩
      case measure => simp [intOf]; omega
    · obtain rfl : k = h := by omega
      go_wp2
      go_ret
      rw [List.take_of_length_le (by rw [List.length_map, HLL.out]; exact Nat.le_refl _)] at hown
      exact ⟨_, rfl, hown, hb⟩

end Go.Proofs.YtijhajkakmohnaaGreatDoor

/- Walks: sums.fixed, Fix, Extend. -/
set_option linter.unusedVariables false
namespace Go.Proofs.YtijhajkakmohnaaGreatDoor
open Go.RowKit Zp

end Go.Proofs.YtijhajkakmohnaaGreatDoor

/- Walks: code.may, Encode, Distance. -/
set_option linter.unusedVariables false
namespace Go.Proofs.YtijhajkakmohnaaGreatDoor
open Go.RowKit Zp

/-- may k be? A Bool behind a name -/
def mayB (n : Nat) (k : Int) : Bool := decide (1 ≤ k ∧ k ≤ n)
theorem mayB_true {n : Nat} {k : Int} (h : 1 ≤ k ∧ k ≤ n) : mayB n k = true := decide_eq_true h
theorem mayB_false {n : Nat} {k : Int} (h : ¬ (1 ≤ k ∧ k ≤ n)) : mayB n k = false := decide_eq_false h
theorem may_any (D n : Nat) (k : Int) (w : World) (hc : w.cell? ⟨D, 1, none⟩ = some (vi n)) :
    Calls Tryz.prog 128 #[.pointer (some ⟨D, 0, none⟩), vi k] w fun e w' => e = .returned (.bool (mayB n k)) ∧ w = w' := by
  by_cases h1 : 1 ≤ k
  · by_cases h2 : k ≤ n
    · have h := mayB_true ⟨h1, h2⟩
      have H := Lib.hid h
      clear h
      go_enter Tryz.func128, Tryz.ntmps128
      go_wp2_with (go_at_call 66; refine (size_any D n _ hc).mono ?_; rintro e w' ⟨rfl, rfl⟩)
      go_ret
      exact ⟨ret_bool H.out.symm, rfl⟩
    · have t2 : decide (k ≤ (n : Int)) = false := by simpa using h2
      have h := mayB_false (n := n) (k := k) (fun h => h2 h.2)
      have H := Lib.hid h
      clear h
      go_enter Tryz.func128, Tryz.ntmps128
      go_wp2_with (go_at_call 66; refine (size_any D n _ hc).mono ?_; rintro e w' ⟨rfl, rfl⟩)
      go_ret
      exact ⟨ret_bool H.out.symm, rfl⟩
  · have t1 : decide (1 ≤ k) = false := by simpa using h1
    have h := mayB_false (n := n) (k := k) (fun h => h1 h.1)
    have H := Lib.hid h
    clear h
    go_enter Tryz.func128, Tryz.ntmps128
    go_wp2
    go_ret
    exact ⟨ret_bool H.out.symm, rfl⟩


theorem of_elq (p : Nat) [NeZero p] (hp2 : p ≤ 2147483647) (b : Nat) (n : Int) (hn : I64 n) (w : World) (hc : w.cell? ⟨b, 0, none⟩ = some (vi p)) :
    Calls Tryz.prog 108 #[.pointer (some ⟨b, 0, none⟩), vi n] w fun e w' => e = .returned (vi (fv (el p n))) ∧ w = w' :=
  (of_el p hp2 b n hn w hc).mono fun _ _ h => ⟨h.1, h.2.symm⟩
end Go.Proofs.YtijhajkakmohnaaGreatDoor

/- Walk: sums.Extend. -/
set_option linter.unusedVariables false
namespace Go.Proofs.YtijhajkakmohnaaGreatDoor
open Go.RowKit Zp

abbrev NoInt (k : Int) : Ending := .returned (.tuple #[vi 0, .iface 89 (.int .i64 k)])
/-- an int, no error -/
def GivesI (x : Int) (w : World) (e : Ending) (w' : World) : Prop := e = .returned (.tuple #[vi x, .nilIface]) ∧ Below w.heap.size w w'
end Go.Proofs.YtijhajkakmohnaaGreatDoor

/- Tables in memory; walks: sums.total. -/
set_option linter.unusedVariables false
namespace Go.Proofs.YtijhajkakmohnaaGreatDoor
open Go.RowKit Zp

/-- a product of k -/
def prodT {p : Nat} [NeZero p] (k : Nat) (f : Nat → Fin p) : Fin p := match k with
  | 0 => 1
  | k + 1 => prodT k f * f k
theorem prodT_succ {p : Nat} [NeZero p] (k : Nat) (f : Nat → Fin p) : prodT (k + 1) f = prodT k f * f k := rfl
theorem prodT_congr {p : Nat} [NeZero p] {k : Nat} {f g : Nat → Fin p} (h : ∀ i, i < k → f i = g i) : prodT k f = prodT k g := by
  induction k with
  | zero => rfl
  | succ k ih => rw [prodT_succ, prodT_succ, ih (fun i hi => h i (by omega)), h k (by omega)]
/-- table number j of several -/
def tabOf (p : Nat) [NeZero p] (ts : List (List Int)) (j : Nat) : List (Fin p) := els p (ts.getD j [])
/-- the sum of the products of the tables -/
def totP {p : Nat} [NeZero p] (d n : Nat) (T : Nat → List (Fin p)) : Fin p := sumT n fun i => prodT d fun j => co (T j) i

end Go.Proofs.YtijhajkakmohnaaGreatDoor

/- Plain facts: the round's polynomial of a sum; what is not true is caught. No program is in sight but for the words of the tables. -/
set_option linter.unusedVariables false
namespace Go.Proofs.YtijhajkakmohnaaGreatDoor
open Zp
section ct
variable {p : Nat} [NeZero p]

theorem fixE_eq (a b r : Fin p) : fixE a b r = a + (b - a) * r := by unfold fixE; grind

/-- a product of straight lines is a polynomial -/
theorem prod_poly (d : Nat) (f g : Nat → Fin p) : ∃ Q : List (Fin p), Q.length ≤ d + 1 ∧ ∀ r, ev Q r = prodT d fun j => fixE (f j) (g j) r := by
  induction d with
  | zero => exact ⟨[1], by simp, fun r => by simp only [ev, prodT]; grind⟩
  | succ d ih =>
    obtain ⟨Q, h1, h2⟩ := ih
    refine ⟨trimL (mulL Q [f d, g d - f d]), ?_, fun r => ?_⟩
    · have h3 : (trimL (mulL Q [f d, g d - f d])).length ≤ Q.length + 1 := trimL_length_of fun i hi => co_mulL_ge _ Q i (by simp; omega)
      omega
    · rw [ev_trim, ev_mulL, h2, prodT_succ, fixE_eq]
      simp only [ev]
      grind
theorem sum_poly (d h : Nat) (F G : Nat → Nat → Fin p) : ∃ Q : List (Fin p), Q.length ≤ d + 1 ∧ ∀ r, ev Q r = sumT h fun i => prodT d fun j => fixE (F i j) (G i j) r := by
  induction h with
  | zero => exact ⟨[], by simp, fun r => rfl⟩
  | succ h ih =>
    obtain ⟨Q, h1, h2⟩ := ih
    obtain ⟨R, h3, h4⟩ := prod_poly d (F h) (G h)
    refine ⟨addL Q R, ?_, fun r => ?_⟩
    · rw [addL, tab_length]; omega
    · rw [ev_addL, h2, h4, sumT_succ]
theorem sumT_split (m k : Nat) (f : Nat → Fin p) : sumT (m + k) f = sumT m f + sumT k (fun i => f (i + m)) := by
  induction k with
  | zero => simp only [sumT, Nat.add_zero]; grind
  | succ k ih => rw [← Nat.add_assoc, sumT_succ, ih, sumT_succ, Nat.add_comm k m]; grind

/-- the tables with the first variable let be r -/
def fixT (h : Nat) (T : Nat → List (Fin p)) (r : Fin p) (j : Nat) : List (Fin p) := fixL h (T j) r
theorem tot_fix (d h : Nat) (T : Nat → List (Fin p)) (r : Fin p) : totP d h (fixT h T r) = sumT h fun i => prodT d fun j => fixE (co (T j) i) (co (T j) (i + h)) r :=
  sumT_congr fun i hi => prodT_congr fun j hj => by rw [fixT, co_fixL _ _ hi]
theorem tot_round (d h : Nat) (T : Nat → List (Fin p)) : totP d (2 * h) T = totP d h (fixT h T 0) + totP d h (fixT h T 1) := by
  rw [tot_fix, tot_fix, totP, Nat.two_mul, sumT_split]
  congr 1
  · exact sumT_congr fun i _ => prodT_congr fun j _ => by rw [fixE_eq]; grind
  · exact sumT_congr fun i _ => prodT_congr fun j _ => by rw [fixE_eq]; grind

/-- if all of d + 1 unlike elements are met, the sum is true -/
theorem catch_law (hp : IsPrime p) {d h : Nat} (T : Nat → List (Fin p)) {g : List (Fin p)} (hg : g.length ≤ d + 1) {rs : List (Fin p)} (hn : rs.Nodup) (hl : rs.length = d + 1) (hr : ∀ r ∈ rs, totP d h (fixT h T r) = ev g r) :
    totP d (2 * h) T = ev g 0 + ev g 1 := by
  obtain ⟨Q, h1, h2⟩ := sum_poly d h (fun i j => co (T j) i) (fun i j => co (T j) (i + h))
  have hQ : ∀ r, ev Q r = totP d h (fixT h T r) := fun r => by rw [h2, tot_fix]
  have hz : trimL (subL Q g) = [] := zero_of_roots hp hn (fun r hrm => by rw [ev_subL, hQ, hr r hrm]; grind) (by rw [subL, tab_length]; omega)
  have he : ∀ r, ev Q r = ev g r := fun r => by
    have h3 := ev_trim (subL Q g) r
    rw [hz, ev_subL] at h3
    simp only [ev] at h3
    grind
  rw [tot_round, ← hQ, ← hQ, he, he]
end ct
end Go.Proofs.YtijhajkakmohnaaGreatDoor

/- A slice of ints that came in. -/
set_option linter.unusedVariables false
namespace Go.Proofs.YtijhajkakmohnaaGreatDoor
open Go.RowKit

/-- '.slice A n c' came in and reads as xs -/
structure ArgS (w : World) (A : Option Addr) (n c : Nat) (xs : List Int) : Prop where
  len : xs.length = n
  cap : n ≤ c
  i64 : ∀ x ∈ xs, I64 x
  reach : c * 8 ≤ 140737488351232
  sl : SL w A xs

theorem ArgS.nil (w : World) : ArgS w none 0 0 [] := ⟨rfl, Nat.le_refl _, by simp, by omega, SL.nil⟩
theorem i64_of_wf {n : Int} (h : (Lit.int .i64 n).wf = true) : I64 n := by
  simpa [Lit.wf, IntKind.min, IntKind.max, IntKind.signed, IntKind.bits] using h

theorem ArgS.mk_ {w : World} {a : Addr} {len cap : Nat} {zs : List Int} (hl : len ≤ cap) (hm : cap ≤ maxLen) (hz : zs.length = cap) (lt : ∀ q ∈ MemPlace.row a zs.length, q.block < w.heap.size)
    (hcell : ∀ i, i < zs.length → w.cell? (a.add i) = some (.int .i64 (zs.getD i 0))) (hwz : ∀ n ∈ zs, (Lit.int .i64 n).wf = true) (hb : cap * 8 ≤ 140737488351232) : ArgS w (some a) len cap (zs.take len) := by
  have hlen : (zs.take len).length = len := by rw [List.length_take, hz]; omega
  refine ⟨hlen, hl, fun x hx => i64_of_wf (hwz x (List.mem_of_mem_take hx)), hb, ?_⟩
  refine ⟨by simp, fun hn => ⟨a, rfl, ?_, fun j u hu => ?_⟩⟩
  · have h0 : 0 < zs.length := by rw [hlen] at hn; omega
    have hc0 := hcell 0 h0
    have : (a.add 0).block < w.heap.size := by
      false_or_by_contra
      rename_i hge
      rw [World.cell?, Array.getElem?_eq_none (by omega)] at hc0
      cases hc0
    rwa [block_of_add] at this
  · rw [List.getElem?_map] at hu
    cases hj : (zs.take len)[j]? with
    | none => rw [hj] at hu; cases hu
    | some x =>
      rw [hj] at hu
      injection hu with hu
      rw [List.getElem?_take] at hj
      split at hj
      · have hjl : j < zs.length := (List.getElem?_eq_some_iff.1 hj).1
        rw [hcell j hjl, ← hu]
        simp [List.getD_eq_getElem?_getD, hj]
      · cases hj

section
variable {w w' : World} {A : Option Addr} {n c : Nat} {xs : List Int}
theorem ArgS.below (h : ArgS w A n c xs) (hb : Below w.heap.size w w') : ArgS w' A n c xs := ⟨h.len, h.cap, h.i64, h.reach, h.sl.below hb⟩
theorem ArgS.r8 (h : ArgS w A n c xs) : xs.length * 8 ≤ 140737488351232 := by
  have := h.reach
  have := h.cap
  have := h.len
  omega
end
end Go.Proofs.YtijhajkakmohnaaGreatDoor

/- Own slices of slices of ints: append of one; how they read; slices of slices of ints that came in. -/
set_option linter.unusedVariables false
namespace Go.Proofs.YtijhajkakmohnaaGreatDoor
open Go.RowKit

theorem info_ints : (Tryz.prog.info? 22).map (fun i => (i.zero, i.size, i.bytes)) = some (some (.slice none 0 0), 1, 24) := by kernel_rfl

/-- the call's own slice of slices of ints -/
abbrev OwnR (w : World) (base : Nat) (v : Value) (us : List Value) : Prop := w.ownsRow base 22 1 v us.length us
/-- each is a slice of ints of the call's own -/
def RowsOwn (w : World) (base : Nat) (us : List Value) (ls : List (List Int)) : Prop := us.length = ls.length ∧ ∀ k (h : k < us.length) (h' : k < ls.length), Own w base us[k] ls[k]

theorem own_ne {w : World} {base base' : Nat} {v u : Value} {xs : List Int} {us : List Value} (h : Own w base v xs) (k : OwnR w base' u us) : v.ownBlock = none ∨ v.ownBlock ≠ u.ownBlock := by
  rcases h.2 with ⟨rfl, _⟩ | ⟨g, cap, cur, rfl, _, hg, _⟩
  · exact .inl rfl
  · refine .inr ?_
    rcases k.2 with ⟨rfl, _⟩ | ⟨g', cap', cur', rfl, _, hg', _⟩
    · intro e; cases e
    · intro e
      injection e with e
      subst e
      rw [hg] at hg'
      injection hg' with hg'
      injection hg' with _ ht
      exact absurd ht (by decide)

/-- what an append of an own row leaves -/
structure GrewR (w w' : World) (base : Nat) (v v' : Value) (us : List Value) : Prop where
  own : OwnR w' base v' us
  grown : w.grownBy w' v.ownBlock

theorem GrewR.below {w0 w w' : World} {base : Nat} {v v' : Value} {us vs : List Value} (h : GrewR w w' base v v' us) {B : Nat} (hb : Below B w0 w) (ho : OwnR w base v vs) (hB : B ≤ base) (hs : B ≤ w.heap.size) : Below B w0 w' :=
  hb.grown h.grown hs (fun k hk => Nat.le_trans hB (World.ownsRow.lt ho k hk).1)
theorem GrewR.rows {w w' : World} {base base2 : Nat} {v v' : Value} {us vs ws : List Value} {ls : List (List Int)} (h : GrewR w w' base v v' us) (ho : OwnR w base v vs) (hr : RowsOwn w base2 ws ls) : RowsOwn w' base2 ws ls :=
  ⟨hr.1, fun k h1 h2 => (hr.2 k h1 h2).grown h.grown (own_ne (hr.2 k h1 h2) ho)⟩

theorem run_appR (w : World) (base : Nat) (v : Value) (us : List Value) (A : Option Addr) (n c : Nat) (hown : OwnR w base v us) (hlen : us.length < 5864062014805) (hbase : base ≤ w.heap.size) (ty : TypeId) :
    ∃ v' w', (Builtin.append_ #[23, 23] ty #[v, .slice (some ⟨w.heap.size, 0, none⟩) 1 1]).run Tryz.prog (w.alloc (.cells #[.slice A n c] 22)) = .ok v' w' ∧ GrewR w w' base v v' (us ++ [.slice A n c]) := by
  obtain ⟨i0, hi, hz0, hz1, hz2⟩ := info_parts info_ints
  obtain ⟨v', w', hrun, h2, h3, _, h5⟩ := run_append_own_at (P := Tryz.prog) (w.alloc (.cells #[.slice A n c] 22)) base 23 ty 22 i0 _ 1 24 Tryz.underlying23 hi hz0 hz1 hz2 rfl (by omega)
    v us.length us (hown.alloc _) ⟨w.heap.size, 0, none⟩ 1 1 [.slice A n c] rfl (by
      intro j u hj
      match j, hj with
      | 0, hj => simp at hj; subst hj; simp [Addr.add]) (by simp [Value.oneCell']) (by simp only [maxLen]; omega) (by omega) (by simp; omega)
  refine ⟨v', w', hrun, ?_, grownBy_trans (World.grownBy_alloc w _ _) h3⟩
  have e : (us ++ [Value.slice A n c]).length = us.length + 1 := by simp
  rw [OwnR, e]
  exact h2

/-- append of one row -/
theorem wpList_appR {ops : Array Oper} {rest : List Oper} {o : Oper} {a : Act} {Q : Exit → Act → World → Prop} (w : World) (A : Option Addr) (n c : Nat) (hgd : o.guard = none) (s x : Operand)
    (ho : o.op = .call { callee := .builtin .append, args := #[s, x], argTypes := #[23, 23] })
    (base : Nat) (v : Value) (us : List Value) (hs : a.eval s = v) (hx : a.eval x = .slice (some ⟨w.heap.size, 0, none⟩) 1 1) (hown : OwnR w base v us) (hlen : us.length < 5864062014805) (hbase : base ≤ w.heap.size)
    (h : ∀ v' w', GrewR w w' base v v' (us ++ [.slice A n c]) → wpList Tryz.prog ops Q rest (a.put o.dst v') w') : wpList Tryz.prog ops Q (o :: rest) a (w.alloc (.cells #[.slice A n c] 22)) :=
  wpList_plain hgd fun _ hK => by
    obtain ⟨v', w', hrun, hg⟩ := run_appR w base v us A n c hown hlen hbase o.type
    unfold Oper.wp execOp
    simp only [ho, resolve, invoke, builtin, Sem.run_bind, Sem.run_pure, Result.andThen_ok, List.map_toArray, List.map_cons, List.map_nil, hs, hx, hrun]
    exact hK _ _ (h v' w' hg)

theorem RowsOwn.nil (w : World) (base : Nat) : RowsOwn w base [] [] := ⟨rfl, fun k h => absurd h (by simp)⟩
theorem RowsOwn.snoc {w : World} {base : Nat} {us : List Value} {ls : List (List Int)} {u : Value} {l : List Int} (h : RowsOwn w base us ls) (hu : Own w base u l) : RowsOwn w base (us ++ [u]) (ls ++ [l]) := by
  have hl := h.1
  refine ⟨by simp [hl], fun k h1 h2 => ?_⟩
  by_cases hk : k < us.length
  · rw [List.getElem_append_left hk, List.getElem_append_left (by omega)]
    exact h.2 k hk (by omega)
  · have e : k = us.length := by simp at h1; omega
    subst e
    rw [List.getElem_append_right (Nat.le_refl _), List.getElem_append_right (by omega)]
    simpa [hl] using hu
theorem RowsOwn.below {w w' : World} {base : Nat} {us : List Value} {ls : List (List Int)} (h : RowsOwn w base us ls) (hb : Below w.heap.size w w') : RowsOwn w' base us ls := ⟨h.1, fun k h1 h2 => (h.2 k h1 h2).below hb⟩
theorem RowsOwn.more {w : World} {base base' : Nat} {us : List Value} {ls : List (List Int)} (h : RowsOwn w base us ls) (hb : base' ≤ base) : RowsOwn w base' us ls := ⟨h.1, fun k h1 h2 => (h.2 k h1 h2).more hb⟩

/-- own rows read as tables -/
theorem tb_own {w : World} {base base2 : Nat} {A : Option Addr} {n c : Nat} {us : List Value} {ls : List (List Int)} (h : OwnR w base (.slice A n c) us) (hr : RowsOwn w base2 us ls) (hi : ∀ l ∈ ls, ∀ x ∈ l, I64 x) : TB w A ls := fun k hk => by
  have hku : k < us.length := by rw [hr.1]; exact hk
  have hn : us.length = n := by
    rcases h.2 with ⟨e, h0⟩ | ⟨g, cap, cur, e, _⟩
    · injection e with _ e2 _; omega
    · injection e with _ e2 _; exact e2.symm
  subst hn
  have hrd := Reads.of_own h
  obtain ⟨ad, u, e1, e2, e3, e4⟩ := Reads.at_ (k := k) hrd (by omega)
  have e5 : u = us[k] := by
    rw [List.getElem?_eq_getElem hku] at e3
    injection e3 with e3
    exact e3.symm
  obtain ⟨A1, n1, c1, e6, e7, e8, e9, e10⟩ := (hr.2 k hku hk).shapeN
  have hm : maxLen < 9223372036854775808 := by simp [maxLen]
  exact ⟨ad, A1, n1, c1, e1, by rw [block_of_add]; exact e2, by rw [e4, e5, e6], e7, by omega, e10, hi _ (List.getElem_mem hk)⟩
theorem ownR_shape {w : World} {base : Nat} {v : Value} {us : List Value} (h : OwnR w base v us) : ∃ A n c, v = .slice A n c ∧ us.length = n ∧ n ≤ c := by
  rcases h.2 with ⟨rfl, h0⟩ | ⟨g, cap, cur, rfl, _, _, h1, _⟩
  · exact ⟨none, 0, 0, rfl, h0, Nat.le_refl _⟩
  · exact ⟨_, _, _, rfl, rfl, h1⟩

/-- '.slice A n c' came in and reads as rows -/
structure ArgM (w : World) (A : Option Addr) (n c : Nat) (ts : List (List Int)) : Prop where
  len : ts.length = n
  cap : n ≤ c
  max : c ≤ 9223372036854775807
  tb : TB w A ts
theorem ArgM.nil (w : World) : ArgM w none 0 0 [] := ⟨rfl, Nat.le_refl _, by omega, fun k hk => absurd hk (by simp)⟩
theorem ArgM.mk_ {w : World} {a : Addr} {len cap : Nat} {A : Nat → Option Addr} {L C : Nat → Nat} {Z : Nat → List Int} (hl : len ≤ cap) (hm : cap ≤ maxLen)
    (h : ∀ r, r < cap → w.cell? (a.add r) = some (.slice (A r) (L r) (C r)) ∧ L r ≤ C r ∧ C r ≤ maxLen ∧ (Z r).length = C r ∧ (∀ n ∈ Z r, (Lit.int .i64 n).wf = true) ∧ (A r = none → C r = 0) ∧
        ∀ a', A r = some a' → 0 ≤ a'.block ∧ ∀ c, c < C r → w.cell? (a'.add c) = some (.int .i64 ((Z r).getD c 0))) :
    ArgM w (some a) len cap ((List.range len).map fun r => (Z r).take (L r)) := by
  have hmm : maxLen ≤ 9223372036854775807 := by simp [maxLen]
  refine ⟨by simp, hl, by omega, fun k hk => ?_⟩
  have hk' : k < len := by simpa using hk
  obtain ⟨h1, h2, h3, h4, h5, h6, h7⟩ := h k (by omega)
  have e : ((List.range len).map fun r => (Z r).take (L r))[k] = (Z k).take (L k) := by simp
  rw [e]
  have hlen : ((Z k).take (L k)).length = L k := by rw [List.length_take, h4]; omega
  refine ⟨a, A k, L k, C k, rfl, block_lt_of_cell h1, h1, hlen, by omega, ⟨by simp, fun hn => ?_⟩, fun x hx => i64_of_wf (h5 x (List.mem_of_mem_take hx))⟩
  rw [hlen] at hn
  cases hA : A k with
  | none => have := h6 hA; omega
  | some a' =>
    obtain ⟨_, h8⟩ := h7 a' hA
    have hc0 := h8 0 (by omega)
    refine ⟨a', rfl, ?_, fun j u hu => ?_⟩
    · have := block_lt_of_cell hc0
      rwa [block_of_add] at this
    · rw [List.getElem?_map] at hu
      cases hj : ((Z k).take (L k))[j]? with
      | none => rw [hj] at hu; cases hu
      | some x =>
        rw [hj] at hu
        injection hu with hu
        rw [List.getElem?_take] at hj
        split at hj
        · have hjl : j < (Z k).length := (List.getElem?_eq_some_iff.1 hj).1
          rw [h8 j (by omega), ← hu]
          simp [List.getD_eq_getElem?_getD, hj]
        · cases hj
end Go.Proofs.YtijhajkakmohnaaGreatDoor

/- Walks: sums.checked. -/
set_option linter.unusedVariables false
namespace Go.Proofs.YtijhajkakmohnaaGreatDoor
open Go.RowKit Zp

theorem varsI_I64 (n : Nat) : I64 (varsI n) := by
  by_cases h : IsCube n
  · obtain ⟨v, hv⟩ := h
    rw [varsI_of hv]
    have := hv.1
    constructor <;> omega
  · rw [varsI_no h]; constructor <;> decide

end Go.Proofs.YtijhajkakmohnaaGreatDoor

/- Walks: sums.checked, Total. -/
set_option linter.unusedVariables false
namespace Go.Proofs.YtijhajkakmohnaaGreatDoor
open Go.RowKit Zp

theorem varsI_eq {n v : Nat} (h : varsI n = (v : Int)) : Cube n v := by
  by_cases hi : IsCube n
  · obtain ⟨u, hu⟩ := hi
    rw [varsI_of hu] at h
    obtain rfl : u = v := by omega
    exact hu
  · rw [varsI_no hi] at h; omega
theorem cell_new1 (w : World) (v : Value) (t : TypeId) : (w.alloc (.cells #[v] t)).cell? ⟨w.heap.size, 0, none⟩ = some v := by
  simp
/-- all tables have v variables -/
def Over (ts : List (List Int)) (v : Nat) : Prop := ∀ t ∈ ts, Cube t.length v

end Go.Proofs.YtijhajkakmohnaaGreatDoor

/- Plain and memory: tables Fixed; what a round tells, as lists; rows of one's own. -/
set_option linter.unusedVariables false
namespace Go.Proofs.YtijhajkakmohnaaGreatDoor
open Go.RowKit Zp


/-- the tables with their first variable let be r, as lists -/
def fixI (q h : Nat) [NeZero q] (ts : List (List Int)) (d : Nat) (r : Fin q) : List (List Int) := (List.range d).map fun j => fvs (fixL h (tabOf q ts j) r)
theorem fixI_length (q h : Nat) [NeZero q] (ts : List (List Int)) (d : Nat) (r : Fin q) : (fixI q h ts d r).length = d := by simp [fixI]
theorem fixI_take (q h : Nat) [NeZero q] (ts : List (List Int)) (d : Nat) (r : Fin q) (k : Nat) (hk : k < d) : (fixI q h ts d r).take k ++ [fvs (fixL h (tabOf q ts k) r)] = (fixI q h ts d r).take (k + 1) := by
  rw [List.take_succ_eq_append_getElem (by rw [fixI_length]; exact hk)]; simp [fixI]
theorem fixI_over (q u : Nat) [NeZero q] (ts : List (List Int)) (d : Nat) (r : Fin q) (hu : u ≤ 12) : Over (fixI q (2 ^ u) ts d r) u := fun l hl => by
  obtain ⟨j, _, rfl⟩ := List.mem_map.1 hl
  exact ⟨hu, by rw [List.length_map, fixL_length]⟩
theorem fixI_i64 (q h : Nat) [NeZero q] (hq : q ≤ 2147483647) (ts : List (List Int)) (d : Nat) (r : Fin q) : ∀ l ∈ fixI q h ts d r, ∀ x ∈ l, I64 x := fun l hl => by
  obtain ⟨j, _, rfl⟩ := List.mem_map.1 hl
  exact fun x hx => by obtain ⟨y, _, rfl⟩ := List.mem_map.1 hx; exact i64_fv _ hq
theorem fixI_tot (q h : Nat) [NeZero q] (ts : List (List Int)) (d : Nat) (r : Fin q) : totP d h (tabOf q (fixI q h ts d r)) = totP d h (fixT h (tabOf q ts) r) := by
  refine sumT_congr fun i _ => prodT_congr fun j hj => ?_
  have e : tabOf q (fixI q h ts d r) j = fixL h (tabOf q ts j) r := by
    unfold tabOf fixI
    rw [List.getD_eq_getElem?_getD, List.getElem?_map, List.getElem?_range hj]
    simp only [Option.map_some, Option.getD_some]
    rw [els_fvs]
    rfl
  rw [e]; rfl

theorem OwnR.below {w w' : World} {base : Nat} {v : Value} {us : List Value} (h : OwnR w base v us) (hb : Below w.heap.size w w') : OwnR w' base v us := by
  rcases h.2 with h0 | ⟨g, cap, cur, e, h1, hg, h2⟩
  · exact ⟨h.1, .inl h0⟩
  · have hlt : g < w.heap.size := (World.ownsRow.lt h g (by rw [e]; rfl)).2
    exact ⟨h.1, .inr ⟨g, cap, cur, e, h1, (hb.block g hlt).trans hg, h2⟩⟩
theorem Fld.drewR {w : World} {S b p : Nat} [NeZero p] (h : Fld w S b p) : Fld w.drew S b p := ⟨h.prime, h.three, h.max, h.lt, h.le, h.c0, h.c1, h.c2⟩
/-- rows of one's own are made -/
def MadeRows (ls : List (List Int)) (w : World) (e : Ending) (w' : World) : Prop :=
  ∃ v us, e = .returned v ∧ OwnR w' w.heap.size v us ∧ RowsOwn w' w.heap.size us ls ∧ Below w.heap.size w w'
def FixRel (q h : Nat) [NeZero q] (ts : List (List Int)) (d : Nat) (r : Fin q) (w4 : World) (v i : Value) (wr : World) : Prop :=
  ∃ (k : Nat) (us : List Value), k ≤ d ∧ i = vi k ∧ OwnR wr w4.heap.size v us ∧ RowsOwn wr w4.heap.size us ((fixI q h ts d r).take k) ∧ Below w4.heap.size w4 wr
theorem fixI_len (q h : Nat) [NeZero q] (ts : List (List Int)) (d : Nat) (r : Fin q) : ∀ t ∈ fixI q h ts d r, t.length = h := fun l hl => by
  obtain ⟨j, _, rfl⟩ := List.mem_map.1 hl
  rw [List.length_map, fixL_length]
/-- the values of a round's polynomial at 0 .. d -/
def roundL (q h : Nat) [NeZero q] (ts : List (List Int)) (d : Nat) : List (Fin q) := (List.range (d + 1)).map fun (i : Nat) => totP d h (fixT h (tabOf q ts) (el q (i : Int)))
theorem roundL_length (q h : Nat) [NeZero q] (ts : List (List Int)) (d : Nat) : (roundL q h ts d).length = d + 1 := by simp [roundL]
theorem roundL_take (q h : Nat) [NeZero q] (ts : List (List Int)) (d k : Nat) (hk : k < d + 1) : (fvs (roundL q h ts d)).take k ++ [fv (totP d h (fixT h (tabOf q ts) (el q (k : Int))))] = (fvs (roundL q h ts d)).take (k + 1) := by
  rw [List.take_succ_eq_append_getElem (by rw [List.length_map, roundL_length]; exact hk)]; simp [roundL]
end Go.Proofs.YtijhajkakmohnaaGreatDoor

/- What a row of a slice of slices weighs at most. -/
set_option linter.unusedVariables false
namespace Go.Proofs.YtijhajkakmohnaaGreatDoor
open Go.RowKit Go.ChangeShapes

theorem weightsAll_mem {H : Type} {P : Program} {e : TypeId} {d : DataW H} {n : Nat} : ∀ {l : List (DataW H)}, d ∈ l → n ∈ d.weights P e → n ∈ DataW.weightsAll P e l
  | x :: l, hd, hn => by
    simp only [DataW.weightsAll, List.mem_append]
    rcases List.mem_cons.1 hd with rfl | h
    · exact .inl hn
    · exact .inr (weightsAll_mem h hn)
theorem sized_row {H : Type} {P : Program} {ts : List TypeId} {ds : List (DataW H)} (h : (DataW.weightsEach P ts ds).all (· ≤ reachBytes) = true) {j : Nat} {t e q : TypeId} {elems spare el sp : List (DataW H)} (ht : ts[j]? = some t) (hd : ds[j]? = some (.slice elems spare)) (hu : P.underlying t = some (.slice e)) (hv : P.underlying e = some (.slice q))
    (hm : .slice el sp ∈ elems) : (el.length + sp.length) * P.bytesOf q ≤ reachBytes := by
  have h1 : (el.length + sp.length) * P.bytesOf q ∈ DataW.weights P e (.slice el sp) := by simp [DataW.weights, hv]
  have h2 := weightsAll_mem hm h1
  have := List.all_eq_true.1 h _ (DataW.weights_mem_each ht hd _ (by simp only [DataW.weights, hu]; exact List.mem_cons_of_mem _ (List.mem_append_left _ h2)))
  simpa using this

theorem bytesI : Tryz.prog.bytesOf 3 = 8 := by kernel_rfl
theorem bytesR : Tryz.prog.bytesOf 22 = 24 := by kernel_rfl
/-- rows that came in, each of a length that memory holds -/
structure ArgMS (w : World) (A : Option Addr) (n c : Nat) (ts : List (List Int)) : Prop where
  m : ArgM w A n c ts
  n24 : n ≤ 5864062014805
  r8 : ∀ t ∈ ts, t.length * 8 ≤ 140737488351232
theorem ArgMS.rows {w : World} {A : Option Addr} {n c : Nat} {ts : List (List Int)} (h : ArgMS w A n c ts) : ∀ t ∈ ts, t.length ≤ 17592186044416 := fun t ht => by have := h.r8 t ht; omega
theorem ArgMS.nil (w : World) : ArgMS w none 0 0 [] := ⟨ArgM.nil _, by omega, by simp⟩
theorem ArgMS.i64 {w : World} {A : Option Addr} {n c : Nat} {ts : List (List Int)} (h : ArgMS w A n c ts) : ∀ t ∈ ts, ∀ x ∈ t, I64 x := fun t ht => by
  obtain ⟨k, hk, rfl⟩ := List.mem_iff_getElem.1 ht
  obtain ⟨_, _, _, _, _, _, _, _, _, _, hi⟩ := h.m.tb k hk
  exact hi
theorem ArgMS.mk_ {H : Type} {tys : List TypeId} {ds : List (DataW H)} (hsz : (DataW.weightsEach Tryz.prog tys ds).all (· ≤ reachBytes) = true) {j : Nat} (ht : tys[j]? = some 23) {w : World} {a : Addr} {len cap : Nat} {A : Nat → Option Addr} {L C : Nat → Nat} {Z : Nat → List Int}
    (hd : ds[j]? = some (.slice ((List.range len).map fun r => Go.Deep.intRow .i64 (A r) (L r) (Z r)) ((List.range (cap - len)).map fun j => Go.Deep.intRow .i64 (A (len + j)) (L (len + j)) (Z (len + j))))) (hl : len ≤ cap) (hm : cap ≤ maxLen)
    (h : ∀ r, r < cap → w.cell? (a.add r) = some (.slice (A r) (L r) (C r)) ∧ L r ≤ C r ∧ C r ≤ maxLen ∧ (Z r).length = C r ∧ (∀ n ∈ Z r, (Lit.int .i64 n).wf = true) ∧ (A r = none → C r = 0) ∧
        ∀ a', A r = some a' → 0 ≤ a'.block ∧ ∀ c, c < C r → w.cell? (a'.add c) = some (.int .i64 ((Z r).getD c 0))) :
    ArgMS w (some a) len cap ((List.range len).map fun r => (Z r).take (L r)) := by
  refine ⟨ArgM.mk_ hl hm h, ?_, fun t hmem => ?_⟩
  · have h1 := sized_slice hsz (j := j) (t := 23) (e := 22) ht hd Tryz.underlying23
    rw [bytesR] at h1
    simp only [List.length_map, List.length_range, reachBytes] at h1
    omega
  · obtain ⟨r, hr, rfl⟩ := List.mem_map.1 hmem
    have hr' := List.mem_range.1 hr
    obtain ⟨_, h2, _, h4, _, h6, _⟩ := h r (by omega)
    rw [List.length_take]
    cases hA : A r with
    | none => have := h6 hA; omega
    | some a' =>
      have hin : DataW.slice (H := H) (lits .i64 ((Z r).take (L r))) (lits .i64 ((Z r).drop (L r))) ∈ (List.range len).map fun r => Go.Deep.intRow .i64 (A r) (L r) (Z r) :=
        List.mem_map.2 ⟨r, hr, by simp only [Go.Deep.intRow, hA]⟩
      have h1 := sized_row hsz (j := j) ht hd Tryz.underlying23 Tryz.underlying22 hin
      rw [bytesI] at h1
      simp only [lits, List.length_map, List.length_take, List.length_drop, reachBytes] at h1
      omega
end Go.Proofs.YtijhajkakmohnaaGreatDoor

/- law3.plain: a sponge, or none. -/
set_option linter.unusedVariables false
namespace Go.Proofs.YtijhajkakmohnaaGreatDoor
open Go.RowKit Zp

set_option maxHeartbeats 2000000 in
theorem spnew_none (p S b : Nat) [NeZero p] (h23 : p < 23) (w : World) (F : Fld w S b p) :
    Calls Tryz.prog 32 #[.pointer (some ⟨b, 0, none⟩)] w fun e w' => e = .returned (.tuple #[.pointer none, .iface 89 (.int .i64 3)]) ∧ w = w' := by
  have hcb := F.c0
  have tq : ((p : Int) < 23) = True := by simp; omega
  go_enter Tryz.func32, Tryz.ntmps32
  go_wp2_with (go_at_call 91; refine (p_any p b _ (by exact hcb)).mono ?_; rintro _ _ ⟨rfl, rfl⟩)
  go_ret2
  exact ⟨rfl, rfl⟩
end Go.Proofs.YtijhajkakmohnaaGreatDoor

/- same.Sponge: a sponge, as far as there is one, and that the program says so too. -/
set_option linter.unusedVariables false
namespace Go.Proofs.YtijhajkakmohnaaGreatDoor
open Go.RowKit Zp

/-- is there a sponge? -/
def HasSponge (p : Int) : Prop := HasField p ∧ 23 ≤ p
def NoSponge (w : World) (e : Ending) (w' : World) : Prop := SaysW (.tuple #[.pointer none, .bool true]) w e w'
theorem ssponge_no (p : Int) (hp : I64 p) (h : ¬ HasSponge p) (w : World) (hT : Typed w) :
    Calls Tryz.prog 7 #[vi p] w fun e w' => NoSponge w e w' := by
  by_cases hf : HasField p
  · obtain ⟨n, rfl⟩ := Int.eq_ofNat_of_zero_le (a := p) (by have := hf.1; omega)
    have hpn : IsPrime n := by simpa using hf.2.2
    haveI := hpn.ne
    have h23 : n < 23 := by
      rcases Nat.lt_or_ge n 23 with h1 | h1
      · exact h1
      · exact absurd ⟨hf, by omega⟩ h
    have HF := Lib.hid (sfield_yes n (by have := hf.1; omega) (by have := hf.2.1; omega) hpn w hT)
    have HS := Lib.hid (fun S b W F => spnew_none n S b h23 W F)
    have he := fun W hT => error_any 3 3 W hT
    rw [errV_ne (by decide), show ((3 : Int) == 3) = true from rfl] at he
    have HE := Lib.hid he
    have t1 : ¬ (23 : Int) ≤ (n : Int) := by omega
    clear he hf h hpn h23
    go_enter Tryz.func7, Tryz.ntmps7
    go_wp2_with fail
    refine (HF.out).mono ?_
    rintro e w1 ⟨b, rfl, F, hb1⟩
    go_wp2_with fail
    refine (HS.out _ _ _ F).mono ?_
    rintro e _ ⟨rfl, rfl⟩
    go_wp2_with fail
    refine (HE.out _ (hT.below hb1)).mono ?_
    rintro e w2 ⟨rfl, hb2⟩
    go_wp2
    go_ret2
    exact ⟨rfl, hb1.trans (hb2.mono hb1.size)⟩
  · have HF := Lib.hid (sfield_no p hp hf w hT)
    clear hf h
    go_enter Tryz.func7, Tryz.ntmps7
    go_wp2_with fail
    refine (HF.out).mono ?_
    rintro e w1 ⟨rfl, hb1⟩
    go_wp2
    go_ret2
    exact ⟨rfl, hb1⟩
def YesSponge (q : Nat) [NeZero q] (w : World) (e : Ending) (w' : World) : Prop :=
  ∃ (s b k z : Nat) (oo : Nat → Nat → Fin q), e = .returned (.tuple #[.pointer (some ⟨s, 0, none⟩), .bool true]) ∧ Fld w' w'.heap.size b q ∧ Spg w' s b k z oo ∧ w.heap.size ≤ s ∧ s < w'.heap.size ∧ Below w.heap.size w w'
theorem ssponge_yes (q : Nat) [NeZero q] (h23 : 23 ≤ q) (hm : q ≤ 2147483647) (hpr : IsPrime q) (w : World) (hT : Typed w) :
    Calls Tryz.prog 7 #[vi q] w fun e w' => YesSponge q w e w' := by
  have HF := Lib.hid (sfield_yes q (by omega) hm hpr w hT)
  have HS := Lib.hid (fun S b W F => spnew_any q S b h23 W F)
  have he := fun W hT => error_any 0 0 W hT
  rw [errV_zero, show ((0 : Int) == 0) = true from rfl] at he
  have HE := Lib.hid he
  have t1 : (23 : Int) ≤ (q : Int) := by omega
  clear he hpr h23
  go_enter Tryz.func7, Tryz.ntmps7
  go_wp2_with fail
  refine (HF.out).mono ?_
  rintro e w1 ⟨b, rfl, F, hb1⟩
  go_wp2_with fail
  refine (HS.out _ _ _ F).mono ?_
  rintro e w2 ⟨rfl, ⟨k, z, oo, G⟩, hb2⟩
  have hb12 := hb1.trans (hb2.mono hb1.size)
  have hsl := block_lt_of_cell G.c0
  go_wp2_with fail
  refine (HE.out _ (hT.below hb12)).mono ?_
  rintro e w3 ⟨rfl, hb3⟩
  go_wp2
  go_ret2
  exact ⟨_, b, k, z, oo, rfl, (F.below hb2 (Nat.le_refl _) |>.moreS hb2.size (Nat.le_refl _)).below hb3 (Nat.le_refl _) |>.moreS hb3.size (Nat.le_refl _), G.below hb3 hsl, hb1.size, Nat.lt_of_lt_of_le hsl hb3.size, hb12.trans (hb3.mono hb12.size)⟩
theorem hasSponge_nat {p : Int} (h : HasSponge p) : ∃ n : Nat, p = n ∧ 23 ≤ n ∧ n ≤ 2147483647 ∧ IsPrime n := by
  obtain ⟨n, rfl⟩ := Int.eq_ofNat_of_zero_le (a := p) (by have := h.2; omega)
  exact ⟨n, rfl, by have := h.2; omega, by have := h.1.2.1; omega, by simpa using h.1.2.2⟩
end Go.Proofs.YtijhajkakmohnaaGreatDoor

/- Arguments that are structs of slices: each field opened. -/
set_option linter.unusedVariables false
namespace Go.Proofs.YtijhajkakmohnaaGreatDoor
open Go.RowKit Go.ChangeShapes Go.WideShapes Go.ChangeAt

theorem sized_agg {H : Type} {P : Program} {ts : List TypeId} {ds : List (DataW H)} (h : (DataW.weightsEach P ts ds).all (· ≤ reachBytes) = true) {j : Nat} {t : TypeId} {fs : Array Field} {parts : List (DataW H)} (ht : ts[j]? = some t) (hd : ds[j]? = some (.agg parts)) (hu : P.underlying t = some (.struct fs)) :
    (DataW.weightsEach P (fs.toList.map (·.type)) parts).all (· ≤ reachBytes) = true := by
  rw [List.all_eq_true]
  intro n hn
  refine List.all_eq_true.1 h n (DataW.weights_mem_each ht hd n ?_)
  simp only [DataW.weights, hu]; exact hn
theorem arg_ints {H : Type} {enc : TypeId × Value → H} {tys : List TypeId} {ds : List (DataW H)} (hsz : (DataW.weightsEach Tryz.prog tys ds).all (· ≤ reachBytes) = true) {j : Nat} (ht : tys[j]? = some 22) {W : World} {n : Nat} {u : Value} {y : DataW H × List MemPlace} (hd : ds[j]? = some y.1)
    (hf : DataW.trod enc Tryz.prog W 0 (fun _ => true) true n 22 [u] = some y) : ∃ A len cap zs, u = .slice A len cap ∧ ArgS W A len cap zs := by
  have lt : ∀ x ∈ y.2, x.block < W.heap.size := DataW.trod_lt n _ _ _ hf
  rcases open_ints Tryz.underlying22 Tryz.underlying3 (by kernel_rfl) hf with ⟨hcs, hx⟩ | ⟨x, l, c, zs, hcs, _, hl, hm, hz, hx, hcell, hwz⟩
  · simp at hcs
    subst hcs
    exact ⟨none, 0, 0, [], rfl, ArgS.nil _⟩
  · simp at hcs
    subst hcs
    rw [hx] at hd lt
    have hb : c * 8 ≤ 140737488351232 := by
      have h := sized_slice hsz (j := j) (t := 22) (e := 3) ht hd Tryz.underlying22
      rw [bytesI] at h
      simp only [lits, List.length_map, List.length_take, List.length_drop, reachBytes] at h
      have hz' : zs.length = c := by simpa using hz
      omega
    exact ⟨some x, l, c, zs.take l, rfl, ArgS.mk_ hl hm (by simpa using hz) (fun p hp' => lt p hp') hcell hwz hb⟩
theorem arg_rows {H : Type} {enc : TypeId × Value → H} {tys : List TypeId} {ds : List (DataW H)} (hsz : (DataW.weightsEach Tryz.prog tys ds).all (· ≤ reachBytes) = true) {j : Nat} (ht : tys[j]? = some 23) {W : World} {n : Nat} {u : Value} {y : DataW H × List MemPlace} (hd : ds[j]? = some y.1)
    (hf : DataW.trod enc Tryz.prog W 0 (fun _ => true) true n 23 [u] = some y) : ∃ A len cap ts, u = .slice A len cap ∧ ArgMS W A len cap ts := by
  rcases Go.Deep.open_int_rows Tryz.underlying23 Tryz.underlying22 Tryz.underlying3 (by kernel_rfl) (by kernel_rfl) hf with ⟨hcs, hx⟩ | ⟨x, l, c, AA, LL, CC, ZZ, hcs, _, hl, hm, hx, hrow⟩
  · simp at hcs
    subst hcs
    exact ⟨none, 0, 0, [], rfl, ArgMS.nil _⟩
  · simp at hcs
    subst hcs
    rw [hx] at hd
    exact ⟨some x, l, c, _, rfl, ArgMS.mk_ hsz (j := j) ht hd hl hm hrow⟩
end Go.Proofs.YtijhajkakmohnaaGreatDoor
