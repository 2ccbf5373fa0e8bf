/- A bundle of texts: Za, Ya, Yb, Yc, Yd, Deg, Trim. -/
import Derived.Test.YtpkhcncempoohaaGreatDoorQ02
import Derived.Test.YtpkhcncempoohaaGreatDoorQ00
import Derived.Maps.OwnOps
import Derived.Maps.OwnSet
import Derived.Maps.Views
import Derived.BigRegion
import Derived.BigQuiet
import Derived.WalkLawsBesides
import Derived.Deep.RegionHeld3
import Derived.Deep.QuietTactic
import Derived.Shelf.Strings.SlTrimAscii
import Derived.Shelf.Strings.Prefix
import Derived.Shelf.Small.Strs
set_option linter.unusedVariables false
set_option linter.unusedSimpArgs false
set_option linter.unusedSectionVars false
namespace Go.Proofs.YtpkhcncempoohaaGreatDoor
open Go.RowKit Zp
structure Tn (X : List Nat) (w w' : World) : Prop where
  os : w'.os = w.os
  tape : w'.tape = w.tape
  output : w'.output = w.output
  size : w.heap.size ≤ w'.heap.size
  block : ∀ k, k < w.heap.size → ¬ k ∈ X → w'.heap[k]? = w.heap[k]?
theorem Tn.refl (X : List Nat) (w : World) : Tn X w w := ⟨rfl, rfl, rfl, Nat.le_refl _, fun _ _ _ => rfl⟩
theorem Tn.trans {X : List Nat} {a b c : World} (h : Tn X a b) (k : Tn X b c) : Tn X a c :=
  ⟨k.os.trans h.os, k.tape.trans h.tape, k.output.trans h.output, Nat.le_trans h.size k.size, fun i hi hx => (k.block i (Nat.lt_of_lt_of_le hi h.size) hx).trans (h.block i hi hx)⟩
theorem Tn.more {X Y : List Nat} {a b : World} (h : Tn X a b) (hs : ∀ k ∈ X, k ∈ Y ∨ a.heap.size ≤ k) : Tn Y a b :=
  ⟨h.os, h.tape, h.output, h.size, fun k hk hy => h.block k hk fun hx => by
    rcases hs k hx with h1 | h1
    · exact hy h1
    · omega⟩
theorem Tn.drewN {X : List Nat} {a b : World} (h : Tn X a b) (k : Nat) : Tn X a (b.drewN k) := ⟨h.os, h.tape, h.output, h.size, h.block⟩
theorem Tn.drew {X : List Nat} {a b : World} (h : Tn X a b) : Tn X a b.drew := ⟨h.os, h.tape, h.output, h.size, h.block⟩
theorem Tn.alloc {X : List Nat} {a b : World} (h : Tn X a b) (o : Obj) : Tn X a (b.alloc o) :=
  h.trans ⟨rfl, rfl, rfl, by simp, fun k hk _ => Below.heap_alloc _ _ _ hk⟩
theorem Tn.setCell {X : List Nat} {a b : World} (h : Tn X a b) {q : Addr} (hq : q.block ∈ X ∨ a.heap.size ≤ q.block) (u : Value) : Tn X a (b.setCell q u) :=
  ⟨h.os, h.tape, h.output, by rw [show (b.setCell q u).heap.size = b.heap.size by simp [World.setCell]]; exact h.size, fun k hk hx => (Below.heap_setCell b q u k (fun e => by
    rcases hq with h1 | h1
    · exact hx (e ▸ h1)
    · omega)).trans (h.block k hk hx)⟩
theorem Tn.grown {X : List Nat} {a b c : World} {row : Option Nat} (h : Tn X a b) (hg : b.grownBy c row) (hr : ∀ k, row = some k → k ∈ X ∨ a.heap.size ≤ k) : Tn X a c :=
  ⟨hg.os.trans h.os, hg.tape.trans h.tape, hg.output.trans h.output, Nat.le_trans h.size hg.size, fun k hk hx => (hg.block k (Nat.lt_of_lt_of_le hk h.size) (fun e => by
    rcases hr k e.symm with h1 | h1
    · exact hx h1
    · omega)).trans (h.block k hk hx)⟩
theorem Tn.below {X : List Nat} {B : Nat} {a b : World} (h : Tn X a b) (hX : ∀ k ∈ X, B ≤ k) (hB : B ≤ a.heap.size) : Below B a b :=
  ⟨h.os, h.tape, h.output, h.size, fun k hk => h.block k (by omega) fun hx => by have := hX k hx; omega⟩
theorem Tn.of_below {X : List Nat} {a b : World} (h : Below a.heap.size a b) : Tn X a b := ⟨h.os, h.tape, h.output, h.size, fun k hk _ => h.block k hk⟩
theorem Blk.tn {X : List Nat} {w w' : World} {g : Nat} {t : TypeId} {cs : Array Value} (h : Blk w g t cs) (ht : Tn X w w') (hg : ¬ g ∈ X) : Blk w' g t cs := (ht.block g h.lt hg).trans h
theorem Tn.cell {X : List Nat} {w w' : World} (ht : Tn X w w') {q : Addr} {v : Value} (h : w.cell? q = some v) (hg : ¬ q.block ∈ X) : w'.cell? q = some v :=
  (World.cell?_of_block (w := w) (ht.block q.block (block_lt_of_cell h) hg)).trans h
theorem keyed_i : Go.Maps.Keyed Tryz.prog 3 := Go.Maps.int_keyed Tryz.underlying3
theorem zero_i (w : World) : (zeroValue 3).run Tryz.prog w = .ok (vi 0) w := by kernel_rfl
theorem wf_fvi {p : Nat} (z : Fin p) (hp2 : p ≤ 2147483647) : (Lit.int .i64 (fv z)).wf = true := by
  have h := i64_fv z hp2
  simp [Lit.wf, IntKind.min, IntKind.max, IntKind.signed, IntKind.bits]
  exact ⟨h.1, h.2⟩
def MapM {p : Nat} (w : World) (g n : Nat) (m : Fin p → Option (Fin p)) : Prop := ∃ D : DataW Unit, w.ownsMap Tryz.prog 3 (plainElem Tryz.prog 3) g n D ∧ (∀ z : Fin p, Go.Maps.has D (.int .i64 (fv z)) = (m z).isSome) ∧ ∀ z v, m z = some v → D.atKey (.int .i64 (fv z)) (.lit (.int .i64 0)) = .lit (.int .i64 (fv v))
theorem MapM.block {p : Nat} {w w' : World} {g n : Nat} {m : Fin p → Option (Fin p)} (h : MapM w g n m) (hb : w'.heap[g]? = w.heap[g]?) : MapM w' g n m := by
  obtain ⟨D, ⟨es, clock, h1, h2⟩, h3⟩ := h
  exact ⟨D, ⟨es, clock, hb.trans h1, h2⟩, h3⟩
theorem MapM.lt {p : Nat} {w : World} {g n : Nat} {m : Fin p → Option (Fin p)} (h : MapM w g n m) : g < w.heap.size := by
  obtain ⟨D, h1, _⟩ := h
  exact h1.lt
def macCs {p : Nat} (b : Nat) (size : Int) (AI : Option Addr) (L cI gm : Nat) (s : StM p) (a0 a1 a2 i0 i1 i2 : Int) (u : Nat) (SV : Value) (d : Nat) : Array Value :=
  #[.pointer (some ⟨b, 0, none⟩), vi size, .slice AI L cI, .map (some gm), vi (fv s.pc), vi (fv s.fp), vi (fv s.ap), vi (fv s.rv), vi a0, vi a1, vi a2, vi i0, vi i1, vi i2, vi u, SV, vi d]
structure Mac {p : Nat} (w : World) (mB b gm n : Nat) (size : Int) (AI : Option Addr) (L cI : Nat) (s : StM p) (u : Nat) (SV : Value) (d : Nat) : Prop where
  blk : ∃ a0 a1 a2 i0 i1 i2 : Int, (I64 a0 ∧ I64 a1 ∧ I64 a2) ∧ Blk w mB 87 (macCs b size AI L cI gm s a0 a1 a2 i0 i1 i2 u SV d)
  map : MapM w gm n s.mem
  ne : gm ≠ mB
  fld : w.cell? ⟨b, 0, none⟩ = some (vi p)
  bne : b ≠ mB ∧ b ≠ gm
theorem Mac.tn {p : Nat} {w w' : World} {X : List Nat} {mB b gm n : Nat} {size : Int} {AI : Option Addr} {L cI : Nat} {s : StM p} {u : Nat} {SV : Value} {d : Nat} (h : Mac w mB b gm n size AI L cI s u SV d) (ht : Tn X w w') (h1 : ¬ mB ∈ X) (h2 : ¬ gm ∈ X) (h3 : ¬ b ∈ X) : Mac w' mB b gm n size AI L cI s u SV d := by
  obtain ⟨a0, a1, a2, i0, i1, i2, hi, hB⟩ := h.blk
  exact ⟨⟨a0, a1, a2, i0, i1, i2, hi, hB.tn ht h1⟩, h.map.block (ht.block gm h.map.lt h2), h.ne, ht.cell h.fld h3, h.bne⟩
theorem Mac.drewN {p : Nat} {w : World} {mB b gm n : Nat} {size : Int} {AI : Option Addr} {L cI : Nat} {s : StM p} {u : Nat} {SV : Value} {d : Nat} (h : Mac w mB b gm n size AI L cI s u SV d) (k : Nat) : Mac (w.drewN k) mB b gm n size AI L cI s u SV d :=
  h.tn (X := []) ((Tn.refl _ _).drewN k) (by simp) (by simp) (by simp)
theorem Mac.c0 {p : Nat} {w : World} {mB b gm n : Nat} {size : Int} {AI : Option Addr} {L cI : Nat} {s : StM p} {u : Nat} {SV : Value} {d : Nat} (h : Mac w mB b gm n size AI L cI s u SV d) : w.cell? ⟨mB, 0, none⟩ = some (.pointer (some ⟨b, 0, none⟩)) := by
  obtain ⟨a0, a1, a2, i0, i1, i2, hi, hB⟩ := h.blk
  exact (hB.cell 0).trans rfl
theorem Mac.regs {p : Nat} {w : World} {mB b gm n : Nat} {size : Int} {AI : Option Addr} {L cI : Nat} {s : StM p} {u : Nat} {SV : Value} {d : Nat} (h : Mac w mB b gm n size AI L cI s u SV d) : w.cell? ⟨mB, 4, none⟩ = some (vi (fv s.pc)) ∧ w.cell? ⟨mB, 5, none⟩ = some (vi (fv s.fp)) ∧ w.cell? ⟨mB, 6, none⟩ = some (vi (fv s.ap)) ∧ w.cell? ⟨mB, 7, none⟩ = some (vi (fv s.rv)) := by
  obtain ⟨a0, a1, a2, i0, i1, i2, hi, hB⟩ := h.blk
  exact ⟨(hB.cell 4).trans rfl, (hB.cell 5).trans rfl, (hB.cell 6).trans rfl, (hB.cell 7).trans rfl⟩
theorem Mac.thaw {p : Nat} {w : World} {mB b gm n : Nat} {size : Int} {AI : Option Addr} {L cI : Nat} {s : StM p} {u : Nat} {SV : Value} {d : Nat} (h : Mac w mB b gm n size AI L cI s u SV d) (i : Nat) : w.frozen? ⟨mB, i, none⟩ = false := by
  obtain ⟨a0, a1, a2, i0, i1, i2, hi, hB⟩ := h.blk
  exact hB.frozen i
theorem Mac.lay {p : Nat} {w w' : World} {mB b gm n : Nat} {size : Int} {AI : Option Addr} {L cI : Nat} {s : StM p} {u : Nat} {SV : Value} {d : Nat} (h : Mac w mB b gm n size AI L cI s u SV d) (s' : StM p) (SV' : Value) (d' : Nat) (hm : s'.mem = s.mem)
    (hw : ∀ a0 a1 a2 i0 i1 i2 : Int, Blk w mB 87 (macCs b size AI L cI gm s a0 a1 a2 i0 i1 i2 u SV d) → Blk w' mB 87 (macCs b size AI L cI gm s' a0 a1 a2 i0 i1 i2 u SV' d')) (ht : Tn [mB] w w') : Mac w' mB b gm n size AI L cI s' u SV' d' := by
  obtain ⟨a0, a1, a2, i0, i1, i2, hi, hB⟩ := h.blk
  exact ⟨⟨a0, a1, a2, i0, i1, i2, hi, hw _ _ _ _ _ _ hB⟩, by rw [hm]; exact h.map.block (ht.block gm h.map.lt (by simp; exact h.ne)), h.ne, ht.cell h.fld (by simp; exact h.bne.1), h.bne⟩
def stopM (k : Int) : List PanicEntry := [{ v := .iface 137 (.agg #[vi k]), recovered := false }]
theorem must_yes (w : World) : Calls Tryz.prog 104 #[.bool true] w fun e w' => e = .returned (.tuple #[]) ∧ w = w' := by
  go_enter Tryz.func104, Tryz.ntmps104
  go_wp2
  go_end0
  exact ⟨rfl, rfl⟩
theorem own_cell (p : Nat) [NeZero p] (hp2 : p ≤ 2147483647) {mB b gm n : Nat} {size : Int} {AI : Option Addr} {L cI : Nat} {s : StM p} {u : Nat} {SV : Value} {d : Nat} (o : Int) (ho : I64 o) (w : World) (h : Mac w mB b gm n size AI L cI s u SV d) :
    Calls Tryz.prog 106 #[.pointer (some ⟨mB, 0, none⟩), vi o] w fun e w' => e = .returned (vi (fv (s.fp + el p o))) ∧ ∃ k, w' = w.drewN k := by
  obtain ⟨a0, a1, a2, i0, i1, i2, hi, hB⟩ := h.blk
  have c0 := (hB.cell 0).trans (show _ = some (.pointer (some ⟨b, 0, none⟩)) from rfl)
  have c5 := (hB.cell 5).trans (show _ = some (vi (fv s.fp)) from rfl)
  have cb := h.fld
  have hf := i64_fv s.fp hp2
  clear h hB hi
  go_enter Tryz.func106, Tryz.ntmps106
  go_wp2
  go_region_held3 (fun w' => w'.cell? ⟨mB, 0, none⟩ = some (.pointer (some ⟨b, 0, none⟩)) ∧ w'.cell? ⟨mB, 5, none⟩ = some (vi (fv s.fp)) ∧ w'.cell? ⟨b, 0, none⟩ = some (vi p)) (exact ⟨c0, c5, cb⟩) ((go_at_call 98; refine (add_any p hp2 b _ _ hf ho _ (by exact cb)).mono ?_; rintro e w' ⟨rfl, k3, rfl⟩))
  go_wp2
  go_ret
  exact ⟨by rw [el_fv]; rfl, _, rfl⟩
theorem Mac.noted {p : Nat} [NeZero p] {w : World} {mB b gm n : Nat} {size : Int} {AI : Option Addr} {L cI : Nat} {s : StM p} {u : Nat} {SV : Value} {d : Nat} (h : Mac w mB b gm n size AI L cI s u SV d) (hu : u ≤ 2) (x c : Int) (hx : I64 x) :
    Mac ((((w.setCell ⟨mB, 8 + u, none⟩ (vi x)).setCell ⟨mB, 11 + u, none⟩ (vi c)).setCell ⟨mB, 14, none⟩ (vi ((u + 1 : Nat) : Int))).drew) mB b gm n size AI L cI s (u + 1) SV d ∧ Tn [mB, gm] w ((((w.setCell ⟨mB, 8 + u, none⟩ (vi x)).setCell ⟨mB, 11 + u, none⟩ (vi c)).setCell ⟨mB, 14, none⟩ (vi ((u + 1 : Nat) : Int))).drew) := by
  obtain ⟨a0, a1, a2, i0, i1, i2, ⟨y0, y1, y2⟩, hB⟩ := h.blk
  have hT : Tn [mB] w ((((w.setCell ⟨mB, 8 + u, none⟩ (vi x)).setCell ⟨mB, 11 + u, none⟩ (vi c)).setCell ⟨mB, 14, none⟩ (vi ((u + 1 : Nat) : Int))).drew) :=
    ((((Tn.refl [mB] w).setCell (.inl (by simp)) _).setCell (.inl (by simp)) _).setCell (.inl (by simp)) _).drewN 1
  refine ⟨⟨?_, h.map.block (hT.block gm h.map.lt (by simp; exact h.ne)), h.ne, hT.cell h.fld (by simp; exact h.bne.1), h.bne⟩, hT.more (fun k hk => .inl (by simp at hk; simp [hk]))⟩
  have hS := (((hB.set_ (8 + u) (vi x)).set_ (11 + u) (vi c)).set_ 14 (vi ((u + 1 : Nat) : Int))).drew
  obtain rfl | rfl | rfl : u = 0 ∨ u = 1 ∨ u = 2 := by omega
  · exact ⟨x, a1, a2, c, i1, i2, ⟨hx, y1, y2⟩, hS⟩
  · exact ⟨a0, x, a2, i0, c, i2, ⟨y0, hx, y2⟩, hS⟩
  · exact ⟨a0, a1, x, i0, i1, c, ⟨y0, y1, hx⟩, hS⟩
set_option maxHeartbeats 2000000 in
theorem note_any (p : Nat) [NeZero p] (hp2 : p ≤ 2147483647) {mB b gm n : Nat} {size : Int} {AI : Option Addr} {L cI : Nat} {s : StM p} {u : Nat} {SV : Value} {d : Nat} (z : Fin p) (hu : u ≤ 2) (w : World) (h : Mac w mB b gm n size AI L cI s u SV d) :
    Calls Tryz.prog 150 #[.pointer (some ⟨mB, 0, none⟩), vi (fv z)] w fun e w' => e = .returned (.tuple #[]) ∧ Mac w' mB b gm n size AI L cI s (u + 1) SV d ∧ Tn [mB, gm] w w' := by
  obtain ⟨a0, a1, a2, i0, i1, i2, hi, hB⟩ := h.blk
  obtain ⟨D, hD, hD1⟩ := h.map
  obtain ⟨c, hrun, _, hwc⟩ := (hD.drew).lookup_int keyed_i Tryz.underlying83 Tryz.underlying3 (zero_i w.drew) (Go.Maps.keyOf_int_mk Tryz.underlying3 (wf_fvi z hp2))
  have hz := i64_fv z hp2
  have H := Lib.hid h
  have HB := Lib.hid hB
  have HI := Lib.hid hi
  have cu := (hB.cell 14).trans (show _ = some (vi u) from rfl)
  have c3 := (hB.cell 3).trans (show _ = some (.map (some gm)) from rfl)
  have b8 := (hB.cell 8).trans (show _ = some (vi a0) from rfl)
  have b9 := (hB.cell 9).trans (show _ = some (vi a1) from rfl)
  have b10 := (hB.cell 10).trans (show _ = some (vi a2) from rfl)
  have b11 := (hB.cell 11).trans (show _ = some (vi i0) from rfl)
  have b12 := (hB.cell 12).trans (show _ = some (vi i1) from rfl)
  have b13 := (hB.cell 13).trans (show _ = some (vi i2) from rfl)
  have f8 := hB.frozen 8
  have f9 := hB.frozen 9
  have f10 := hB.frozen 10
  have f11 := hB.frozen 11
  have f12 := hB.frozen 12
  have f13 := hB.frozen 13
  have f14 := hB.frozen 14
  clear h hB hi hD hD1 hwc
  have HN := Lib.hid (H.out.noted hu (fv z) c hz)
  obtain rfl | rfl | rfl : u = 0 ∨ u = 1 ∨ u = 2 := by omega
  all_goals
    go_enter Tryz.func150, Tryz.ntmps150
    go_wp2
    go_region
    go_wp2
    go_end0
    exact ⟨rfl, HN.out⟩
end Go.Proofs.YtpkhcncempoohaaGreatDoor

namespace Go.Proofs.YtpkhcncempoohaaGreatDoor
open Go.RowKit Zp
abbrev txtL : ByteArray := ⟨#[102, 110, 32, 109, 97, 105, 110, 40, 97, 41, 32, 61, 32, 97, 32, 42, 32, 40, 97, 32, 43, 32, 49, 41]⟩
def nextOf (w : World) (r : Nat) : Nat := match w.cell? ⟨r, 1, none⟩ with
  | some (.int _ m) => m.toNat
  | _ => 0
def RdB (w : World) (r : Nat) (n k a : Int) (s : ByteArray) (l : Int) : Prop := Blk w r 99 #[.string txtL, vi n, vi k, vi a, .string s, vi l]
theorem RdB.drewN {w : World} {r : Nat} {n k a l : Int} {s : ByteArray} (h : RdB w r n k a s l) (m : Nat) : RdB (w.drewN m) r n k a s l := h
theorem nextOf_rd {w : World} {r : Nat} {n k a l : Int} {s : ByteArray} (h : RdB w r n k a s l) : nextOf w r = n.toNat := by
  have h1 := (Blk.cell h 1).trans (show _ = some (vi n) from rfl)
  unfold nextOf
  rw [h1]
set_option maxHeartbeats 1000000 in
theorem skip_0 (r : Nat) (k a : Int) (s : ByteArray) (l : Int) (w : World) (h : RdB w r 0 k a s l) : Calls Tryz.prog 77 #[.pointer (some ⟨r, 0, none⟩)] w fun e w' => e = .returned (.tuple #[]) ∧ RdB w' r 0 k a s l ∧ Tn [r] w w' := by
  go_enter Tryz.func77, Tryz.ntmps77
  go_wp2
  go_loopw [22] (fun _ wr => ∃ m : Nat, (m = 0) ∧ RdB wr r m k a s l ∧ Tn [r] w wr) (fun _ wr => 25 - nextOf wr r)
  case atStart => exact ⟨0, by simp, h, Tn.refl _ _⟩
  case round =>
    rename World => w1
    obtain ⟨m, hm, hB, hT⟩ := hrel
    clear h
    subst hm
    have k0 := (Blk.cell hB 0).trans (show _ = some (.string txtL) from rfl)
    have k1 := (Blk.cell hB 1).trans (show _ = some (vi 0) from rfl)
    have HB := Lib.hid (And.intro hB hT)
    clear hB hT
    go_wp2
    go_quiet (fail)
    go_wp2
    go_quiet (fail)
    go_wp2
    refine bodyPost_ret (results_none rfl _ _ _) rfl ?_
    exact ⟨rfl, HB.out.1.drewN _, HB.out.2.drewN _⟩
set_option maxHeartbeats 1000000 in
theorem skip_1 (r : Nat) (k a : Int) (s : ByteArray) (l : Int) (w : World) (h : RdB w r 2 k a s l) : Calls Tryz.prog 77 #[.pointer (some ⟨r, 0, none⟩)] w fun e w' => e = .returned (.tuple #[]) ∧ RdB w' r 3 k a s l ∧ Tn [r] w w' := by
  go_enter Tryz.func77, Tryz.ntmps77
  go_wp2
  go_loopw [22] (fun _ wr => ∃ m : Nat, (m = 2 ∨ m = 3) ∧ RdB wr r m k a s l ∧ Tn [r] w wr) (fun _ wr => 25 - nextOf wr r)
  case atStart => exact ⟨2, by simp, h, Tn.refl _ _⟩
  case round =>
    rename World => w1
    obtain ⟨m, hm, hB, hT⟩ := hrel
    clear h
    rcases hm with rfl | rfl
    · have k0 := (Blk.cell hB 0).trans (show _ = some (.string txtL) from rfl)
      have k1 := (Blk.cell hB 1).trans (show _ = some (vi 2) from rfl)
      have f1 := Blk.frozen hB 1
      have HB := Lib.hid (And.intro hB hT)
      clear hB hT
      go_wp2
      go_quiet (fail)
      go_wp2
      go_quiet (fail)
      go_wp2
      have hB3 : RdB ((w1.drewN 0).setCell ⟨r, 1, none⟩ (vi 3)) r 3 k a s l := Blk.set_ (HB.out.1.drewN 0) 1 _
      refine ⟨⟨3, .inr rfl, hB3, ((HB.out.2.drewN _).setCell (.inl (by simp)) _)⟩, ?_⟩
      change 25 - nextOf ((w1.drewN 0).setCell ⟨r, 1, none⟩ (vi 3)) r < _
      rw [nextOf_rd HB.out.1, nextOf_rd hB3]
      decide
    · have k0 := (Blk.cell hB 0).trans (show _ = some (.string txtL) from rfl)
      have k1 := (Blk.cell hB 1).trans (show _ = some (vi 3) from rfl)
      have HB := Lib.hid (And.intro hB hT)
      clear hB hT
      go_wp2
      go_quiet (fail)
      go_wp2
      go_quiet (fail)
      go_wp2
      refine bodyPost_ret (results_none rfl _ _ _) rfl ?_
      exact ⟨rfl, HB.out.1.drewN _, HB.out.2.drewN _⟩
set_option maxHeartbeats 1000000 in
theorem skip_2 (r : Nat) (k a : Int) (s : ByteArray) (l : Int) (w : World) (h : RdB w r 7 k a s l) : Calls Tryz.prog 77 #[.pointer (some ⟨r, 0, none⟩)] w fun e w' => e = .returned (.tuple #[]) ∧ RdB w' r 7 k a s l ∧ Tn [r] w w' := by
  go_enter Tryz.func77, Tryz.ntmps77
  go_wp2
  go_loopw [22] (fun _ wr => ∃ m : Nat, (m = 7) ∧ RdB wr r m k a s l ∧ Tn [r] w wr) (fun _ wr => 25 - nextOf wr r)
  case atStart => exact ⟨7, by simp, h, Tn.refl _ _⟩
  case round =>
    rename World => w1
    obtain ⟨m, hm, hB, hT⟩ := hrel
    clear h
    subst hm
    have k0 := (Blk.cell hB 0).trans (show _ = some (.string txtL) from rfl)
    have k1 := (Blk.cell hB 1).trans (show _ = some (vi 7) from rfl)
    have HB := Lib.hid (And.intro hB hT)
    clear hB hT
    go_wp2
    go_quiet (fail)
    go_wp2
    go_quiet (fail)
    go_wp2
    refine bodyPost_ret (results_none rfl _ _ _) rfl ?_
    exact ⟨rfl, HB.out.1.drewN _, HB.out.2.drewN _⟩
set_option maxHeartbeats 1000000 in
theorem skip_3 (r : Nat) (k a : Int) (s : ByteArray) (l : Int) (w : World) (h : RdB w r 8 k a s l) : Calls Tryz.prog 77 #[.pointer (some ⟨r, 0, none⟩)] w fun e w' => e = .returned (.tuple #[]) ∧ RdB w' r 8 k a s l ∧ Tn [r] w w' := by
  go_enter Tryz.func77, Tryz.ntmps77
  go_wp2
  go_loopw [22] (fun _ wr => ∃ m : Nat, (m = 8) ∧ RdB wr r m k a s l ∧ Tn [r] w wr) (fun _ wr => 25 - nextOf wr r)
  case atStart => exact ⟨8, by simp, h, Tn.refl _ _⟩
  case round =>
    rename World => w1
    obtain ⟨m, hm, hB, hT⟩ := hrel
    clear h
    subst hm
    have k0 := (Blk.cell hB 0).trans (show _ = some (.string txtL) from rfl)
    have k1 := (Blk.cell hB 1).trans (show _ = some (vi 8) from rfl)
    have HB := Lib.hid (And.intro hB hT)
    clear hB hT
    go_wp2
    go_quiet (fail)
    go_wp2
    go_quiet (fail)
    go_wp2
    refine bodyPost_ret (results_none rfl _ _ _) rfl ?_
    exact ⟨rfl, HB.out.1.drewN _, HB.out.2.drewN _⟩
set_option maxHeartbeats 1000000 in
theorem skip_4 (r : Nat) (k a : Int) (s : ByteArray) (l : Int) (w : World) (h : RdB w r 9 k a s l) : Calls Tryz.prog 77 #[.pointer (some ⟨r, 0, none⟩)] w fun e w' => e = .returned (.tuple #[]) ∧ RdB w' r 9 k a s l ∧ Tn [r] w w' := by
  go_enter Tryz.func77, Tryz.ntmps77
  go_wp2
  go_loopw [22] (fun _ wr => ∃ m : Nat, (m = 9) ∧ RdB wr r m k a s l ∧ Tn [r] w wr) (fun _ wr => 25 - nextOf wr r)
  case atStart => exact ⟨9, by simp, h, Tn.refl _ _⟩
  case round =>
    rename World => w1
    obtain ⟨m, hm, hB, hT⟩ := hrel
    clear h
    subst hm
    have k0 := (Blk.cell hB 0).trans (show _ = some (.string txtL) from rfl)
    have k1 := (Blk.cell hB 1).trans (show _ = some (vi 9) from rfl)
    have HB := Lib.hid (And.intro hB hT)
    clear hB hT
    go_wp2
    go_quiet (fail)
    go_wp2
    go_quiet (fail)
    go_wp2
    refine bodyPost_ret (results_none rfl _ _ _) rfl ?_
    exact ⟨rfl, HB.out.1.drewN _, HB.out.2.drewN _⟩
set_option maxHeartbeats 1000000 in
theorem skip_5 (r : Nat) (k a : Int) (s : ByteArray) (l : Int) (w : World) (h : RdB w r 10 k a s l) : Calls Tryz.prog 77 #[.pointer (some ⟨r, 0, none⟩)] w fun e w' => e = .returned (.tuple #[]) ∧ RdB w' r 11 k a s l ∧ Tn [r] w w' := by
  go_enter Tryz.func77, Tryz.ntmps77
  go_wp2
  go_loopw [22] (fun _ wr => ∃ m : Nat, (m = 10 ∨ m = 11) ∧ RdB wr r m k a s l ∧ Tn [r] w wr) (fun _ wr => 25 - nextOf wr r)
  case atStart => exact ⟨10, by simp, h, Tn.refl _ _⟩
  case round =>
    rename World => w1
    obtain ⟨m, hm, hB, hT⟩ := hrel
    clear h
    rcases hm with rfl | rfl
    · have k0 := (Blk.cell hB 0).trans (show _ = some (.string txtL) from rfl)
      have k1 := (Blk.cell hB 1).trans (show _ = some (vi 10) from rfl)
      have f1 := Blk.frozen hB 1
      have HB := Lib.hid (And.intro hB hT)
      clear hB hT
      go_wp2
      go_quiet (fail)
      go_wp2
      go_quiet (fail)
      go_wp2
      have hB3 : RdB ((w1.drewN 0).setCell ⟨r, 1, none⟩ (vi 11)) r 11 k a s l := Blk.set_ (HB.out.1.drewN 0) 1 _
      refine ⟨⟨11, .inr rfl, hB3, ((HB.out.2.drewN _).setCell (.inl (by simp)) _)⟩, ?_⟩
      change 25 - nextOf ((w1.drewN 0).setCell ⟨r, 1, none⟩ (vi 11)) r < _
      rw [nextOf_rd HB.out.1, nextOf_rd hB3]
      decide
    · have k0 := (Blk.cell hB 0).trans (show _ = some (.string txtL) from rfl)
      have k1 := (Blk.cell hB 1).trans (show _ = some (vi 11) from rfl)
      have HB := Lib.hid (And.intro hB hT)
      clear hB hT
      go_wp2
      go_quiet (fail)
      go_wp2
      go_quiet (fail)
      go_wp2
      refine bodyPost_ret (results_none rfl _ _ _) rfl ?_
      exact ⟨rfl, HB.out.1.drewN _, HB.out.2.drewN _⟩
set_option maxHeartbeats 1000000 in
theorem skip_6 (r : Nat) (k a : Int) (s : ByteArray) (l : Int) (w : World) (h : RdB w r 12 k a s l) : Calls Tryz.prog 77 #[.pointer (some ⟨r, 0, none⟩)] w fun e w' => e = .returned (.tuple #[]) ∧ RdB w' r 13 k a s l ∧ Tn [r] w w' := by
  go_enter Tryz.func77, Tryz.ntmps77
  go_wp2
  go_loopw [22] (fun _ wr => ∃ m : Nat, (m = 12 ∨ m = 13) ∧ RdB wr r m k a s l ∧ Tn [r] w wr) (fun _ wr => 25 - nextOf wr r)
  case atStart => exact ⟨12, by simp, h, Tn.refl _ _⟩
  case round =>
    rename World => w1
    obtain ⟨m, hm, hB, hT⟩ := hrel
    clear h
    rcases hm with rfl | rfl
    · have k0 := (Blk.cell hB 0).trans (show _ = some (.string txtL) from rfl)
      have k1 := (Blk.cell hB 1).trans (show _ = some (vi 12) from rfl)
      have f1 := Blk.frozen hB 1
      have HB := Lib.hid (And.intro hB hT)
      clear hB hT
      go_wp2
      go_quiet (fail)
      go_wp2
      go_quiet (fail)
      go_wp2
      have hB3 : RdB ((w1.drewN 0).setCell ⟨r, 1, none⟩ (vi 13)) r 13 k a s l := Blk.set_ (HB.out.1.drewN 0) 1 _
      refine ⟨⟨13, .inr rfl, hB3, ((HB.out.2.drewN _).setCell (.inl (by simp)) _)⟩, ?_⟩
      change 25 - nextOf ((w1.drewN 0).setCell ⟨r, 1, none⟩ (vi 13)) r < _
      rw [nextOf_rd HB.out.1, nextOf_rd hB3]
      decide
    · have k0 := (Blk.cell hB 0).trans (show _ = some (.string txtL) from rfl)
      have k1 := (Blk.cell hB 1).trans (show _ = some (vi 13) from rfl)
      have HB := Lib.hid (And.intro hB hT)
      clear hB hT
      go_wp2
      go_quiet (fail)
      go_wp2
      go_quiet (fail)
      go_wp2
      refine bodyPost_ret (results_none rfl _ _ _) rfl ?_
      exact ⟨rfl, HB.out.1.drewN _, HB.out.2.drewN _⟩
set_option maxHeartbeats 1000000 in
theorem skip_7 (r : Nat) (k a : Int) (s : ByteArray) (l : Int) (w : World) (h : RdB w r 14 k a s l) : Calls Tryz.prog 77 #[.pointer (some ⟨r, 0, none⟩)] w fun e w' => e = .returned (.tuple #[]) ∧ RdB w' r 15 k a s l ∧ Tn [r] w w' := by
  go_enter Tryz.func77, Tryz.ntmps77
  go_wp2
  go_loopw [22] (fun _ wr => ∃ m : Nat, (m = 14 ∨ m = 15) ∧ RdB wr r m k a s l ∧ Tn [r] w wr) (fun _ wr => 25 - nextOf wr r)
  case atStart => exact ⟨14, by simp, h, Tn.refl _ _⟩
  case round =>
    rename World => w1
    obtain ⟨m, hm, hB, hT⟩ := hrel
    clear h
    rcases hm with rfl | rfl
    · have k0 := (Blk.cell hB 0).trans (show _ = some (.string txtL) from rfl)
      have k1 := (Blk.cell hB 1).trans (show _ = some (vi 14) from rfl)
      have f1 := Blk.frozen hB 1
      have HB := Lib.hid (And.intro hB hT)
      clear hB hT
      go_wp2
      go_quiet (fail)
      go_wp2
      go_quiet (fail)
      go_wp2
      have hB3 : RdB ((w1.drewN 0).setCell ⟨r, 1, none⟩ (vi 15)) r 15 k a s l := Blk.set_ (HB.out.1.drewN 0) 1 _
      refine ⟨⟨15, .inr rfl, hB3, ((HB.out.2.drewN _).setCell (.inl (by simp)) _)⟩, ?_⟩
      change 25 - nextOf ((w1.drewN 0).setCell ⟨r, 1, none⟩ (vi 15)) r < _
      rw [nextOf_rd HB.out.1, nextOf_rd hB3]
      decide
    · have k0 := (Blk.cell hB 0).trans (show _ = some (.string txtL) from rfl)
      have k1 := (Blk.cell hB 1).trans (show _ = some (vi 15) from rfl)
      have HB := Lib.hid (And.intro hB hT)
      clear hB hT
      go_wp2
      go_quiet (fail)
      go_wp2
      go_quiet (fail)
      go_wp2
      refine bodyPost_ret (results_none rfl _ _ _) rfl ?_
      exact ⟨rfl, HB.out.1.drewN _, HB.out.2.drewN _⟩
set_option maxHeartbeats 1000000 in
theorem skip_8 (r : Nat) (k a : Int) (s : ByteArray) (l : Int) (w : World) (h : RdB w r 16 k a s l) : Calls Tryz.prog 77 #[.pointer (some ⟨r, 0, none⟩)] w fun e w' => e = .returned (.tuple #[]) ∧ RdB w' r 17 k a s l ∧ Tn [r] w w' := by
  go_enter Tryz.func77, Tryz.ntmps77
  go_wp2
  go_loopw [22] (fun _ wr => ∃ m : Nat, (m = 16 ∨ m = 17) ∧ RdB wr r m k a s l ∧ Tn [r] w wr) (fun _ wr => 25 - nextOf wr r)
  case atStart => exact ⟨16, by simp, h, Tn.refl _ _⟩
  case round =>
    rename World => w1
    obtain ⟨m, hm, hB, hT⟩ := hrel
    clear h
    rcases hm with rfl | rfl
    · have k0 := (Blk.cell hB 0).trans (show _ = some (.string txtL) from rfl)
      have k1 := (Blk.cell hB 1).trans (show _ = some (vi 16) from rfl)
      have f1 := Blk.frozen hB 1
      have HB := Lib.hid (And.intro hB hT)
      clear hB hT
      go_wp2
      go_quiet (fail)
      go_wp2
      go_quiet (fail)
      go_wp2
      have hB3 : RdB ((w1.drewN 0).setCell ⟨r, 1, none⟩ (vi 17)) r 17 k a s l := Blk.set_ (HB.out.1.drewN 0) 1 _
      refine ⟨⟨17, .inr rfl, hB3, ((HB.out.2.drewN _).setCell (.inl (by simp)) _)⟩, ?_⟩
      change 25 - nextOf ((w1.drewN 0).setCell ⟨r, 1, none⟩ (vi 17)) r < _
      rw [nextOf_rd HB.out.1, nextOf_rd hB3]
      decide
    · have k0 := (Blk.cell hB 0).trans (show _ = some (.string txtL) from rfl)
      have k1 := (Blk.cell hB 1).trans (show _ = some (vi 17) from rfl)
      have HB := Lib.hid (And.intro hB hT)
      clear hB hT
      go_wp2
      go_quiet (fail)
      go_wp2
      go_quiet (fail)
      go_wp2
      refine bodyPost_ret (results_none rfl _ _ _) rfl ?_
      exact ⟨rfl, HB.out.1.drewN _, HB.out.2.drewN _⟩
set_option maxHeartbeats 1000000 in
theorem skip_9 (r : Nat) (k a : Int) (s : ByteArray) (l : Int) (w : World) (h : RdB w r 18 k a s l) : Calls Tryz.prog 77 #[.pointer (some ⟨r, 0, none⟩)] w fun e w' => e = .returned (.tuple #[]) ∧ RdB w' r 18 k a s l ∧ Tn [r] w w' := by
  go_enter Tryz.func77, Tryz.ntmps77
  go_wp2
  go_loopw [22] (fun _ wr => ∃ m : Nat, (m = 18) ∧ RdB wr r m k a s l ∧ Tn [r] w wr) (fun _ wr => 25 - nextOf wr r)
  case atStart => exact ⟨18, by simp, h, Tn.refl _ _⟩
  case round =>
    rename World => w1
    obtain ⟨m, hm, hB, hT⟩ := hrel
    clear h
    subst hm
    have k0 := (Blk.cell hB 0).trans (show _ = some (.string txtL) from rfl)
    have k1 := (Blk.cell hB 1).trans (show _ = some (vi 18) from rfl)
    have HB := Lib.hid (And.intro hB hT)
    clear hB hT
    go_wp2
    go_quiet (fail)
    go_wp2
    go_quiet (fail)
    go_wp2
    refine bodyPost_ret (results_none rfl _ _ _) rfl ?_
    exact ⟨rfl, HB.out.1.drewN _, HB.out.2.drewN _⟩
set_option maxHeartbeats 1000000 in
theorem skip_10 (r : Nat) (k a : Int) (s : ByteArray) (l : Int) (w : World) (h : RdB w r 19 k a s l) : Calls Tryz.prog 77 #[.pointer (some ⟨r, 0, none⟩)] w fun e w' => e = .returned (.tuple #[]) ∧ RdB w' r 20 k a s l ∧ Tn [r] w w' := by
  go_enter Tryz.func77, Tryz.ntmps77
  go_wp2
  go_loopw [22] (fun _ wr => ∃ m : Nat, (m = 19 ∨ m = 20) ∧ RdB wr r m k a s l ∧ Tn [r] w wr) (fun _ wr => 25 - nextOf wr r)
  case atStart => exact ⟨19, by simp, h, Tn.refl _ _⟩
  case round =>
    rename World => w1
    obtain ⟨m, hm, hB, hT⟩ := hrel
    clear h
    rcases hm with rfl | rfl
    · have k0 := (Blk.cell hB 0).trans (show _ = some (.string txtL) from rfl)
      have k1 := (Blk.cell hB 1).trans (show _ = some (vi 19) from rfl)
      have f1 := Blk.frozen hB 1
      have HB := Lib.hid (And.intro hB hT)
      clear hB hT
      go_wp2
      go_quiet (fail)
      go_wp2
      go_quiet (fail)
      go_wp2
      have hB3 : RdB ((w1.drewN 0).setCell ⟨r, 1, none⟩ (vi 20)) r 20 k a s l := Blk.set_ (HB.out.1.drewN 0) 1 _
      refine ⟨⟨20, .inr rfl, hB3, ((HB.out.2.drewN _).setCell (.inl (by simp)) _)⟩, ?_⟩
      change 25 - nextOf ((w1.drewN 0).setCell ⟨r, 1, none⟩ (vi 20)) r < _
      rw [nextOf_rd HB.out.1, nextOf_rd hB3]
      decide
    · have k0 := (Blk.cell hB 0).trans (show _ = some (.string txtL) from rfl)
      have k1 := (Blk.cell hB 1).trans (show _ = some (vi 20) from rfl)
      have HB := Lib.hid (And.intro hB hT)
      clear hB hT
      go_wp2
      go_quiet (fail)
      go_wp2
      go_quiet (fail)
      go_wp2
      refine bodyPost_ret (results_none rfl _ _ _) rfl ?_
      exact ⟨rfl, HB.out.1.drewN _, HB.out.2.drewN _⟩
set_option maxHeartbeats 1000000 in
theorem skip_11 (r : Nat) (k a : Int) (s : ByteArray) (l : Int) (w : World) (h : RdB w r 21 k a s l) : Calls Tryz.prog 77 #[.pointer (some ⟨r, 0, none⟩)] w fun e w' => e = .returned (.tuple #[]) ∧ RdB w' r 22 k a s l ∧ Tn [r] w w' := by
  go_enter Tryz.func77, Tryz.ntmps77
  go_wp2
  go_loopw [22] (fun _ wr => ∃ m : Nat, (m = 21 ∨ m = 22) ∧ RdB wr r m k a s l ∧ Tn [r] w wr) (fun _ wr => 25 - nextOf wr r)
  case atStart => exact ⟨21, by simp, h, Tn.refl _ _⟩
  case round =>
    rename World => w1
    obtain ⟨m, hm, hB, hT⟩ := hrel
    clear h
    rcases hm with rfl | rfl
    · have k0 := (Blk.cell hB 0).trans (show _ = some (.string txtL) from rfl)
      have k1 := (Blk.cell hB 1).trans (show _ = some (vi 21) from rfl)
      have f1 := Blk.frozen hB 1
      have HB := Lib.hid (And.intro hB hT)
      clear hB hT
      go_wp2
      go_quiet (fail)
      go_wp2
      go_quiet (fail)
      go_wp2
      have hB3 : RdB ((w1.drewN 0).setCell ⟨r, 1, none⟩ (vi 22)) r 22 k a s l := Blk.set_ (HB.out.1.drewN 0) 1 _
      refine ⟨⟨22, .inr rfl, hB3, ((HB.out.2.drewN _).setCell (.inl (by simp)) _)⟩, ?_⟩
      change 25 - nextOf ((w1.drewN 0).setCell ⟨r, 1, none⟩ (vi 22)) r < _
      rw [nextOf_rd HB.out.1, nextOf_rd hB3]
      decide
    · have k0 := (Blk.cell hB 0).trans (show _ = some (.string txtL) from rfl)
      have k1 := (Blk.cell hB 1).trans (show _ = some (vi 22) from rfl)
      have HB := Lib.hid (And.intro hB hT)
      clear hB hT
      go_wp2
      go_quiet (fail)
      go_wp2
      go_quiet (fail)
      go_wp2
      refine bodyPost_ret (results_none rfl _ _ _) rfl ?_
      exact ⟨rfl, HB.out.1.drewN _, HB.out.2.drewN _⟩
set_option maxHeartbeats 1000000 in
theorem skip_12 (r : Nat) (k a : Int) (s : ByteArray) (l : Int) (w : World) (h : RdB w r 23 k a s l) : Calls Tryz.prog 77 #[.pointer (some ⟨r, 0, none⟩)] w fun e w' => e = .returned (.tuple #[]) ∧ RdB w' r 23 k a s l ∧ Tn [r] w w' := by
  go_enter Tryz.func77, Tryz.ntmps77
  go_wp2
  go_loopw [22] (fun _ wr => ∃ m : Nat, (m = 23) ∧ RdB wr r m k a s l ∧ Tn [r] w wr) (fun _ wr => 25 - nextOf wr r)
  case atStart => exact ⟨23, by simp, h, Tn.refl _ _⟩
  case round =>
    rename World => w1
    obtain ⟨m, hm, hB, hT⟩ := hrel
    clear h
    subst hm
    have k0 := (Blk.cell hB 0).trans (show _ = some (.string txtL) from rfl)
    have k1 := (Blk.cell hB 1).trans (show _ = some (vi 23) from rfl)
    have HB := Lib.hid (And.intro hB hT)
    clear hB hT
    go_wp2
    go_quiet (fail)
    go_wp2
    go_quiet (fail)
    go_wp2
    refine bodyPost_ret (results_none rfl _ _ _) rfl ?_
    exact ⟨rfl, HB.out.1.drewN _, HB.out.2.drewN _⟩
set_option maxHeartbeats 1000000 in
theorem skip_13 (r : Nat) (k a : Int) (s : ByteArray) (l : Int) (w : World) (h : RdB w r 24 k a s l) : Calls Tryz.prog 77 #[.pointer (some ⟨r, 0, none⟩)] w fun e w' => e = .returned (.tuple #[]) ∧ RdB w' r 24 k a s l ∧ Tn [r] w w' := by
  go_enter Tryz.func77, Tryz.ntmps77
  go_wp2
  go_loopw [22] (fun _ wr => ∃ m : Nat, (m = 24) ∧ RdB wr r m k a s l ∧ Tn [r] w wr) (fun _ wr => 25 - nextOf wr r)
  case atStart => exact ⟨24, by simp, h, Tn.refl _ _⟩
  case round =>
    rename World => w1
    obtain ⟨m, hm, hB, hT⟩ := hrel
    clear h
    subst hm
    have k0 := (Blk.cell hB 0).trans (show _ = some (.string txtL) from rfl)
    have k1 := (Blk.cell hB 1).trans (show _ = some (vi 24) from rfl)
    have HB := Lib.hid (And.intro hB hT)
    clear hB hT
    go_wp2
    go_quiet (fail)
    go_wp2
    go_end0
    exact ⟨rfl, HB.out.1.drewN _, HB.out.2.drewN _⟩
end Go.Proofs.YtpkhcncempoohaaGreatDoor

namespace Go.Proofs.YtpkhcncempoohaaGreatDoor
open Go.RowKit Zp
def digB (c : Int) : Bool := decide (48 ≤ c) && decide (c ≤ 57)
def letB (c : Int) : Bool := (decide (97 ≤ c) && decide (c ≤ 122)) || (decide (65 ≤ c) && decide (c ≤ 90))
def joinB (c : Int) : Bool := digB c || letB c || (c == 95)
theorem digit_any (c : Int) (w : World) : Calls Tryz.prog 122 #[.int .u8 c] w fun e w' => e = .returned (.bool (digB c)) ∧ w = w' := by
  unfold digB
  go_enter Tryz.func122, Tryz.ntmps122
  go_wp2
  all_goals (go_ret; exact ⟨by first | (simp_all; done) | (simp_all; omega) | (simp_all; intros; omega) | (simp_all; constructor <;> intros <;> omega), rfl⟩)
theorem letter_any (c : Int) (w : World) : Calls Tryz.prog 123 #[.int .u8 c] w fun e w' => e = .returned (.bool (letB c)) ∧ w = w' := by
  unfold letB
  go_enter Tryz.func123, Tryz.ntmps123
  go_wp2
  all_goals (go_ret; exact ⟨by first | (simp_all; done) | (simp_all; omega) | (simp_all; intros; omega) | (simp_all; constructor <;> intros <;> omega), rfl⟩)
theorem joins_any (c : Int) (w : World) : Calls Tryz.prog 78 #[.int .u8 c] w fun e w' => e = .returned (.bool (joinB c)) ∧ w = w' := by
  have HD := Lib.hid (fun W => digit_any c W)
  have HL := Lib.hid (fun W => letter_any c W)
  unfold joinB
  generalize digB c = d at HD ⊢
  generalize letB c = b at HL ⊢
  go_enter Tryz.func78, Tryz.ntmps78
  go_wp2_with (first | (go_at_call 122; refine (HD.out _).mono ?_; rintro _ _ ⟨rfl, rfl⟩) | (go_at_call 123; refine (HL.out _).mono ?_; rintro _ _ ⟨rfl, rfl⟩))
  all_goals (go_ret; exact ⟨by first | (simp_all; done) | (simp_all; omega) | (simp_all; intros; omega) | (simp_all; constructor <;> intros <;> omega), rfl⟩)
theorem kind_word (S : ByteArray) (h0 : 0 < S.size) (hl : letB (S[0].toNat : Int) = true) (w : World) : Calls Tryz.prog 79 #[.string S] w fun e w' => e = .returned (vi 1) ∧ w = w' := by
  have HL := Lib.hid (fun W => letter_any (S[0].toNat : Int) W)
  rw [hl] at HL
  have h0' : (0 : Int) < (S.size : Int) := by omega
  clear hl
  go_enter Tryz.func79, Tryz.ntmps79
  go_wp2_with fail
  refine (HL.out _).mono ?_
  rintro _ _ ⟨rfl, rfl⟩
  go_wp2
  go_ret
  exact ⟨rfl, rfl⟩
theorem kind_one (w : World) : Calls Tryz.prog 79 #[.string ⟨#[49]⟩] w fun e w' => e = .returned (vi 2) ∧ Below w.heap.size w w' := by
  have HL := Lib.hid (fun W => letter_any 49 W)
  rw [show letB 49 = false by decide] at HL
  have ht := fun W => Any.strings_Trim_laid shTrim (by kernel_rfl) ⟨#[49]⟩ ⟨#[48, 49, 50, 51, 52, 53, 54, 55, 56, 57]⟩ W (by decide) (by decide) (ascii_of_all (by decide))
  change ∀ W, Calls Tryz.prog 124 _ _ _ at ht
  have e0 : (⟨(Lib.trimS (ByteArray.mk #[49]).data.toList (ByteArray.mk #[48, 49, 50, 51, 52, 53, 54, 55, 56, 57]).data.toList).toArray⟩ : ByteArray) = ⟨#[]⟩ := by decide
  rw [e0] at ht
  have HT := Lib.hid ht
  clear ht e0
  go_enter Tryz.func79, Tryz.ntmps79
  go_wp2_with fail
  refine (HL.out _).mono ?_
  rintro _ _ ⟨rfl, rfl⟩
  go_wp2_with fail
  refine (HT.out _).mono ?_
  rintro _ w1 ⟨rfl, hb⟩
  go_wp2
  go_ret
  exact ⟨rfl, hb⟩
end Go.Proofs.YtpkhcncempoohaaGreatDoor

namespace Go.Proofs.YtpkhcncempoohaaGreatDoor
open Go.RowKit Zp
set_option maxHeartbeats 2000000 in
theorem adv_0 (r : Nat) (k a : Int) (s : ByteArray) (l : Int) (w : World) (h : RdB w r 0 k a s l) : Calls Tryz.prog 44 #[.pointer (some ⟨r, 0, none⟩)] w fun e w' => e = .returned (.tuple #[]) ∧ RdB w' r 2 1 0 ⟨#[102, 110]⟩ l ∧ Tn [r] w w' := by
  have HS := Lib.hid (skip_0 r k a s l w h)
  clear h
  go_enter Tryz.func44, Tryz.ntmps44
  go_wp2_with fail
  refine HS.out.mono ?_
  rintro _ w1 ⟨rfl, hB, hT⟩
  have k0 := (Blk.cell hB 0).trans (show _ = some (.string txtL) from rfl)
  have k1 := (Blk.cell hB 1).trans (show _ = some (vi 0) from rfl)
  have k2 := (Blk.cell hB 2).trans (show _ = some (vi k) from rfl)
  have k3 := (Blk.cell hB 3).trans (show _ = some (vi a) from rfl)
  have k4 := (Blk.cell hB 4).trans (show _ = some (.string s) from rfl)
  have f2 := Blk.frozen hB 2
  have f3 := Blk.frozen hB 3
  have f4 := Blk.frozen hB 4
  have HB := Lib.hid (And.intro hB hT)
  have he : (txtL.extract 0 24).toList.isEmpty = false := by decide +kernel
  clear hB hT
  go_wp2
  go_quiet (fail)
  go_wp2
  clear k0 k1 k2 k3 k4 f2 f3 f4 he
  go_loopw [3] (fun v wr => ∃ j : Nat, j ≤ 2 ∧ v = vi j ∧ RdB wr r 0 0 0 ⟨#[]⟩ l ∧ Tn [r] w wr) (fun v _ => 2 - (intOf v).toNat)
  case atStart => exact ⟨0, by omega, rfl, Blk.set_ (Blk.set_ (Blk.set_ (HB.out.1.drewN _) 2 _) 3 _) 4 _, (((HB.out.2.drewN _).setCell (.inl (by simp)) _).setCell (.inl (by simp)) _).setCell (.inl (by simp)) _⟩
  case round =>
    rename World => w2
    obtain ⟨j, hj, rfl, hB, hT⟩ := hrel
    have hcase : j = 0 ∨ j = 1 ∨ j = 2 := by omega
    rcases hcase with rfl | rfl | rfl
    · have HJ := Lib.hid (fun W => joins_any (((txtL.extract 0 24)[0]'(by decide)).toNat : Int) W)
      rw [show joinB (((txtL.extract 0 24)[0]'(by decide)).toNat : Int) = true by decide] at HJ
      have HB2 := Lib.hid (And.intro hB hT)
      clear hB hT
      go_wp2_with (go_at_call 78; refine (HJ.out _).mono ?_; rintro _ _ ⟨rfl, rfl⟩)
      exact ⟨⟨1, by omega, by first | rfl | go_num, HB2.out.1, HB2.out.2⟩, by simp [intOf]⟩
    · have HJ := Lib.hid (fun W => joins_any (((txtL.extract 0 24)[1]'(by decide)).toNat : Int) W)
      rw [show joinB (((txtL.extract 0 24)[1]'(by decide)).toNat : Int) = true by decide] at HJ
      have HB2 := Lib.hid (And.intro hB hT)
      clear hB hT
      go_wp2_with (go_at_call 78; refine (HJ.out _).mono ?_; rintro _ _ ⟨rfl, rfl⟩)
      exact ⟨⟨2, by omega, by first | rfl | go_num, HB2.out.1, HB2.out.2⟩, by simp [intOf]⟩
    · have HJ := Lib.hid (fun W => joins_any (((txtL.extract 0 24)[2]'(by decide)).toNat : Int) W)
      rw [show joinB (((txtL.extract 0 24)[2]'(by decide)).toNat : Int) = false by decide] at HJ
      have HB2 := Lib.hid (And.intro hB hT)
      clear hB hT
      have k1 := (Blk.cell HB2.out.1 1).trans (show _ = some (vi 0) from rfl)
      have k2 := (Blk.cell HB2.out.1 2).trans (show _ = some (vi 0) from rfl)
      have k4 := (Blk.cell HB2.out.1 4).trans (show _ = some (.string ⟨#[]⟩) from rfl)
      have f1 := Blk.frozen HB2.out.1 1
      have f2 := Blk.frozen HB2.out.1 2
      have f4 := Blk.frozen HB2.out.1 4
      have HK := Lib.hid (fun W => kind_word ((txtL.extract 0 24).extract 0 2) (by decide) (by decide) W)
      go_wp2_with (first | (go_at_call 78; refine (HJ.out _).mono ?_; rintro _ _ ⟨rfl, rfl⟩) | (go_at_call 79; refine (HK.out _).mono ?_; rintro _ _ ⟨rfl, rfl⟩))
      have hs : (txtL.extract 0 24).extract 0 2 = ⟨#[102, 110]⟩ := by decide
      rw [hs]
      go_end0
      exact ⟨rfl, Blk.set_ (Blk.set_ (Blk.set_ HB2.out.1 2 _) 4 _) 1 _, ((HB2.out.2.setCell (.inl (by simp)) _).setCell (.inl (by simp)) _).setCell (.inl (by simp)) _⟩
set_option maxHeartbeats 2000000 in
theorem adv_1 (r : Nat) (k a : Int) (s : ByteArray) (l : Int) (w : World) (h : RdB w r 2 k a s l) : Calls Tryz.prog 44 #[.pointer (some ⟨r, 0, none⟩)] w fun e w' => e = .returned (.tuple #[]) ∧ RdB w' r 7 1 3 ⟨#[109, 97, 105, 110]⟩ l ∧ Tn [r] w w' := by
  have HS := Lib.hid (skip_1 r k a s l w h)
  clear h
  go_enter Tryz.func44, Tryz.ntmps44
  go_wp2_with fail
  refine HS.out.mono ?_
  rintro _ w1 ⟨rfl, hB, hT⟩
  have k0 := (Blk.cell hB 0).trans (show _ = some (.string txtL) from rfl)
  have k1 := (Blk.cell hB 1).trans (show _ = some (vi 3) from rfl)
  have k2 := (Blk.cell hB 2).trans (show _ = some (vi k) from rfl)
  have k3 := (Blk.cell hB 3).trans (show _ = some (vi a) from rfl)
  have k4 := (Blk.cell hB 4).trans (show _ = some (.string s) from rfl)
  have f2 := Blk.frozen hB 2
  have f3 := Blk.frozen hB 3
  have f4 := Blk.frozen hB 4
  have HB := Lib.hid (And.intro hB hT)
  have he : (txtL.extract 3 24).toList.isEmpty = false := by decide +kernel
  clear hB hT
  go_wp2
  go_quiet (fail)
  go_wp2
  clear k0 k1 k2 k3 k4 f2 f3 f4 he
  go_loopw [3] (fun v wr => ∃ j : Nat, j ≤ 4 ∧ v = vi j ∧ RdB wr r 3 0 3 ⟨#[]⟩ l ∧ Tn [r] w wr) (fun v _ => 4 - (intOf v).toNat)
  case atStart => exact ⟨0, by omega, rfl, Blk.set_ (Blk.set_ (Blk.set_ (HB.out.1.drewN _) 2 _) 3 _) 4 _, (((HB.out.2.drewN _).setCell (.inl (by simp)) _).setCell (.inl (by simp)) _).setCell (.inl (by simp)) _⟩
  case round =>
    rename World => w2
    obtain ⟨j, hj, rfl, hB, hT⟩ := hrel
    have hcase : j = 0 ∨ j = 1 ∨ j = 2 ∨ j = 3 ∨ j = 4 := by omega
    rcases hcase with rfl | rfl | rfl | rfl | rfl
    · have HJ := Lib.hid (fun W => joins_any (((txtL.extract 3 24)[0]'(by decide)).toNat : Int) W)
      rw [show joinB (((txtL.extract 3 24)[0]'(by decide)).toNat : Int) = true by decide] at HJ
      have HB2 := Lib.hid (And.intro hB hT)
      clear hB hT
      go_wp2_with (go_at_call 78; refine (HJ.out _).mono ?_; rintro _ _ ⟨rfl, rfl⟩)
      exact ⟨⟨1, by omega, by first | rfl | go_num, HB2.out.1, HB2.out.2⟩, by simp [intOf]⟩
    · have HJ := Lib.hid (fun W => joins_any (((txtL.extract 3 24)[1]'(by decide)).toNat : Int) W)
      rw [show joinB (((txtL.extract 3 24)[1]'(by decide)).toNat : Int) = true by decide] at HJ
      have HB2 := Lib.hid (And.intro hB hT)
      clear hB hT
      go_wp2_with (go_at_call 78; refine (HJ.out _).mono ?_; rintro _ _ ⟨rfl, rfl⟩)
      exact ⟨⟨2, by omega, by first | rfl | go_num, HB2.out.1, HB2.out.2⟩, by simp [intOf]⟩
    · have HJ := Lib.hid (fun W => joins_any (((txtL.extract 3 24)[2]'(by decide)).toNat : Int) W)
      rw [show joinB (((txtL.extract 3 24)[2]'(by decide)).toNat : Int) = true by decide] at HJ
      have HB2 := Lib.hid (And.intro hB hT)
      clear hB hT
      go_wp2_with (go_at_call 78; refine (HJ.out _).mono ?_; rintro _ _ ⟨rfl, rfl⟩)
      exact ⟨⟨3, by omega, by first | rfl | go_num, HB2.out.1, HB2.out.2⟩, by simp [intOf]⟩
    · have HJ := Lib.hid (fun W => joins_any (((txtL.extract 3 24)[3]'(by decide)).toNat : Int) W)
      rw [show joinB (((txtL.extract 3 24)[3]'(by decide)).toNat : Int) = true by decide] at HJ
      have HB2 := Lib.hid (And.intro hB hT)
      clear hB hT
      go_wp2_with (go_at_call 78; refine (HJ.out _).mono ?_; rintro _ _ ⟨rfl, rfl⟩)
      exact ⟨⟨4, by omega, by first | rfl | go_num, HB2.out.1, HB2.out.2⟩, by simp [intOf]⟩
    · have HJ := Lib.hid (fun W => joins_any (((txtL.extract 3 24)[4]'(by decide)).toNat : Int) W)
      rw [show joinB (((txtL.extract 3 24)[4]'(by decide)).toNat : Int) = false by decide] at HJ
      have HB2 := Lib.hid (And.intro hB hT)
      clear hB hT
      have k1 := (Blk.cell HB2.out.1 1).trans (show _ = some (vi 3) from rfl)
      have k2 := (Blk.cell HB2.out.1 2).trans (show _ = some (vi 0) from rfl)
      have k4 := (Blk.cell HB2.out.1 4).trans (show _ = some (.string ⟨#[]⟩) from rfl)
      have f1 := Blk.frozen HB2.out.1 1
      have f2 := Blk.frozen HB2.out.1 2
      have f4 := Blk.frozen HB2.out.1 4
      have HK := Lib.hid (fun W => kind_word ((txtL.extract 3 24).extract 0 4) (by decide) (by decide) W)
      go_wp2_with (first | (go_at_call 78; refine (HJ.out _).mono ?_; rintro _ _ ⟨rfl, rfl⟩) | (go_at_call 79; refine (HK.out _).mono ?_; rintro _ _ ⟨rfl, rfl⟩))
      have hs : (txtL.extract 3 24).extract 0 4 = ⟨#[109, 97, 105, 110]⟩ := by decide
      rw [hs]
      go_end0
      exact ⟨rfl, Blk.set_ (Blk.set_ (Blk.set_ HB2.out.1 2 _) 4 _) 1 _, ((HB2.out.2.setCell (.inl (by simp)) _).setCell (.inl (by simp)) _).setCell (.inl (by simp)) _⟩
set_option maxHeartbeats 2000000 in
theorem adv_2 (r : Nat) (k a : Int) (s : ByteArray) (l : Int) (w : World) (h : RdB w r 7 k a s l) : Calls Tryz.prog 44 #[.pointer (some ⟨r, 0, none⟩)] w fun e w' => e = .returned (.tuple #[]) ∧ RdB w' r 8 3 7 ⟨#[40]⟩ l ∧ Tn [r] w w' := by
  have HS := Lib.hid (skip_2 r k a s l w h)
  clear h
  go_enter Tryz.func44, Tryz.ntmps44
  go_wp2_with fail
  refine HS.out.mono ?_
  rintro _ w1 ⟨rfl, hB, hT⟩
  have k0 := (Blk.cell hB 0).trans (show _ = some (.string txtL) from rfl)
  have k1 := (Blk.cell hB 1).trans (show _ = some (vi 7) from rfl)
  have k2 := (Blk.cell hB 2).trans (show _ = some (vi k) from rfl)
  have k3 := (Blk.cell hB 3).trans (show _ = some (vi a) from rfl)
  have k4 := (Blk.cell hB 4).trans (show _ = some (.string s) from rfl)
  have f2 := Blk.frozen hB 2
  have f3 := Blk.frozen hB 3
  have f4 := Blk.frozen hB 4
  have HB := Lib.hid (And.intro hB hT)
  have he : (txtL.extract 7 24).toList.isEmpty = false := by decide +kernel
  clear hB hT
  go_wp2
  go_quiet (fail)
  go_wp2
  clear k0 k1 k2 k3 k4 f2 f3 f4 he
  go_loopw [3] (fun v wr => ∃ j : Nat, j ≤ 0 ∧ v = vi j ∧ RdB wr r 7 0 7 ⟨#[]⟩ l ∧ Tn [r] w wr) (fun v _ => 0 - (intOf v).toNat)
  case atStart => exact ⟨0, by omega, rfl, Blk.set_ (Blk.set_ (Blk.set_ (HB.out.1.drewN _) 2 _) 3 _) 4 _, (((HB.out.2.drewN _).setCell (.inl (by simp)) _).setCell (.inl (by simp)) _).setCell (.inl (by simp)) _⟩
  case round =>
    rename World => w2
    obtain ⟨j, hj, rfl, hB, hT⟩ := hrel
    have hcase : j = 0 := by omega
    rcases hcase with rfl
    · have HJ := Lib.hid (fun W => joins_any (((txtL.extract 7 24)[0]'(by decide)).toNat : Int) W)
      rw [show joinB (((txtL.extract 7 24)[0]'(by decide)).toNat : Int) = false by decide] at HJ
      have HB2 := Lib.hid (And.intro hB hT)
      clear hB hT
      have k1 := (Blk.cell HB2.out.1 1).trans (show _ = some (vi 7) from rfl)
      have k2 := (Blk.cell HB2.out.1 2).trans (show _ = some (vi 0) from rfl)
      have k4 := (Blk.cell HB2.out.1 4).trans (show _ = some (.string ⟨#[]⟩) from rfl)
      have f1 := Blk.frozen HB2.out.1 1
      have f2 := Blk.frozen HB2.out.1 2
      have f4 := Blk.frozen HB2.out.1 4
      have hp := fun W => Any.strings_HasPrefix shPrefix (txtL.extract 7 24) ⟨#[61, 61]⟩ W
      change ∀ W, Calls Tryz.prog 80 _ _ _ at hp
      rw [show Lib.hasPrefix (txtL.extract 7 24).data.toList (ByteArray.mk #[61, 61]).data.toList = false by decide +kernel] at hp
      have hx := fun W => Any.strings_IndexByte shIndexB ⟨#[40, 41, 44, 59, 61, 43, 45, 42, 47]⟩ (((txtL.extract 7 24)[0]'(by decide)).toNat : Int) W
      change ∀ W, Calls Tryz.prog 81 _ _ _ at hx
      rw [show Lib.indexByte (ByteArray.mk #[40, 41, 44, 59, 61, 43, 45, 42, 47]).data.toList (((txtL.extract 7 24)[0]'(by decide)).toNat : Int).toNat.toUInt8 = 0 by decide +kernel] at hx
      have HP := Lib.hid hp
      have HX := Lib.hid hx
      clear hp hx
      have hs : (txtL.extract 7 24).extract 0 1 = ⟨#[40]⟩ := by decide +kernel
      go_wp2_with (first | (go_at_call 78; refine (HJ.out _).mono ?_; rintro _ _ ⟨rfl, rfl⟩) | (go_at_call 80; refine (HP.out _).mono ?_; rintro _ _ ⟨rfl, rfl⟩) | (go_at_call 81; refine (HX.out _).mono ?_; rintro _ _ ⟨rfl, rfl⟩))
      go_end0
      exact ⟨rfl, Blk.set_ (Blk.set_ (Blk.set_ HB2.out.1 2 _) 4 _) 1 _, ((HB2.out.2.setCell (.inl (by simp)) _).setCell (.inl (by simp)) _).setCell (.inl (by simp)) _⟩
set_option maxHeartbeats 2000000 in
theorem adv_3 (r : Nat) (k a : Int) (s : ByteArray) (l : Int) (w : World) (h : RdB w r 8 k a s l) : Calls Tryz.prog 44 #[.pointer (some ⟨r, 0, none⟩)] w fun e w' => e = .returned (.tuple #[]) ∧ RdB w' r 9 1 8 ⟨#[97]⟩ l ∧ Tn [r] w w' := by
  have HS := Lib.hid (skip_3 r k a s l w h)
  clear h
  go_enter Tryz.func44, Tryz.ntmps44
  go_wp2_with fail
  refine HS.out.mono ?_
  rintro _ w1 ⟨rfl, hB, hT⟩
  have k0 := (Blk.cell hB 0).trans (show _ = some (.string txtL) from rfl)
  have k1 := (Blk.cell hB 1).trans (show _ = some (vi 8) from rfl)
  have k2 := (Blk.cell hB 2).trans (show _ = some (vi k) from rfl)
  have k3 := (Blk.cell hB 3).trans (show _ = some (vi a) from rfl)
  have k4 := (Blk.cell hB 4).trans (show _ = some (.string s) from rfl)
  have f2 := Blk.frozen hB 2
  have f3 := Blk.frozen hB 3
  have f4 := Blk.frozen hB 4
  have HB := Lib.hid (And.intro hB hT)
  have he : (txtL.extract 8 24).toList.isEmpty = false := by decide +kernel
  clear hB hT
  go_wp2
  go_quiet (fail)
  go_wp2
  clear k0 k1 k2 k3 k4 f2 f3 f4 he
  go_loopw [3] (fun v wr => ∃ j : Nat, j ≤ 1 ∧ v = vi j ∧ RdB wr r 8 0 8 ⟨#[]⟩ l ∧ Tn [r] w wr) (fun v _ => 1 - (intOf v).toNat)
  case atStart => exact ⟨0, by omega, rfl, Blk.set_ (Blk.set_ (Blk.set_ (HB.out.1.drewN _) 2 _) 3 _) 4 _, (((HB.out.2.drewN _).setCell (.inl (by simp)) _).setCell (.inl (by simp)) _).setCell (.inl (by simp)) _⟩
  case round =>
    rename World => w2
    obtain ⟨j, hj, rfl, hB, hT⟩ := hrel
    have hcase : j = 0 ∨ j = 1 := by omega
    rcases hcase with rfl | rfl
    · have HJ := Lib.hid (fun W => joins_any (((txtL.extract 8 24)[0]'(by decide)).toNat : Int) W)
      rw [show joinB (((txtL.extract 8 24)[0]'(by decide)).toNat : Int) = true by decide] at HJ
      have HB2 := Lib.hid (And.intro hB hT)
      clear hB hT
      go_wp2_with (go_at_call 78; refine (HJ.out _).mono ?_; rintro _ _ ⟨rfl, rfl⟩)
      exact ⟨⟨1, by omega, by first | rfl | go_num, HB2.out.1, HB2.out.2⟩, by simp [intOf]⟩
    · have HJ := Lib.hid (fun W => joins_any (((txtL.extract 8 24)[1]'(by decide)).toNat : Int) W)
      rw [show joinB (((txtL.extract 8 24)[1]'(by decide)).toNat : Int) = false by decide] at HJ
      have HB2 := Lib.hid (And.intro hB hT)
      clear hB hT
      have k1 := (Blk.cell HB2.out.1 1).trans (show _ = some (vi 8) from rfl)
      have k2 := (Blk.cell HB2.out.1 2).trans (show _ = some (vi 0) from rfl)
      have k4 := (Blk.cell HB2.out.1 4).trans (show _ = some (.string ⟨#[]⟩) from rfl)
      have f1 := Blk.frozen HB2.out.1 1
      have f2 := Blk.frozen HB2.out.1 2
      have f4 := Blk.frozen HB2.out.1 4
      have HK := Lib.hid (fun W => kind_word ((txtL.extract 8 24).extract 0 1) (by decide) (by decide) W)
      go_wp2_with (first | (go_at_call 78; refine (HJ.out _).mono ?_; rintro _ _ ⟨rfl, rfl⟩) | (go_at_call 79; refine (HK.out _).mono ?_; rintro _ _ ⟨rfl, rfl⟩))
      have hs : (txtL.extract 8 24).extract 0 1 = ⟨#[97]⟩ := by decide
      rw [hs]
      go_end0
      exact ⟨rfl, Blk.set_ (Blk.set_ (Blk.set_ HB2.out.1 2 _) 4 _) 1 _, ((HB2.out.2.setCell (.inl (by simp)) _).setCell (.inl (by simp)) _).setCell (.inl (by simp)) _⟩
set_option maxHeartbeats 2000000 in
theorem adv_4 (r : Nat) (k a : Int) (s : ByteArray) (l : Int) (w : World) (h : RdB w r 9 k a s l) : Calls Tryz.prog 44 #[.pointer (some ⟨r, 0, none⟩)] w fun e w' => e = .returned (.tuple #[]) ∧ RdB w' r 10 3 9 ⟨#[41]⟩ l ∧ Tn [r] w w' := by
  have HS := Lib.hid (skip_4 r k a s l w h)
  clear h
  go_enter Tryz.func44, Tryz.ntmps44
  go_wp2_with fail
  refine HS.out.mono ?_
  rintro _ w1 ⟨rfl, hB, hT⟩
  have k0 := (Blk.cell hB 0).trans (show _ = some (.string txtL) from rfl)
  have k1 := (Blk.cell hB 1).trans (show _ = some (vi 9) from rfl)
  have k2 := (Blk.cell hB 2).trans (show _ = some (vi k) from rfl)
  have k3 := (Blk.cell hB 3).trans (show _ = some (vi a) from rfl)
  have k4 := (Blk.cell hB 4).trans (show _ = some (.string s) from rfl)
  have f2 := Blk.frozen hB 2
  have f3 := Blk.frozen hB 3
  have f4 := Blk.frozen hB 4
  have HB := Lib.hid (And.intro hB hT)
  have he : (txtL.extract 9 24).toList.isEmpty = false := by decide +kernel
  clear hB hT
  go_wp2
  go_quiet (fail)
  go_wp2
  clear k0 k1 k2 k3 k4 f2 f3 f4 he
  go_loopw [3] (fun v wr => ∃ j : Nat, j ≤ 0 ∧ v = vi j ∧ RdB wr r 9 0 9 ⟨#[]⟩ l ∧ Tn [r] w wr) (fun v _ => 0 - (intOf v).toNat)
  case atStart => exact ⟨0, by omega, rfl, Blk.set_ (Blk.set_ (Blk.set_ (HB.out.1.drewN _) 2 _) 3 _) 4 _, (((HB.out.2.drewN _).setCell (.inl (by simp)) _).setCell (.inl (by simp)) _).setCell (.inl (by simp)) _⟩
  case round =>
    rename World => w2
    obtain ⟨j, hj, rfl, hB, hT⟩ := hrel
    have hcase : j = 0 := by omega
    rcases hcase with rfl
    · have HJ := Lib.hid (fun W => joins_any (((txtL.extract 9 24)[0]'(by decide)).toNat : Int) W)
      rw [show joinB (((txtL.extract 9 24)[0]'(by decide)).toNat : Int) = false by decide] at HJ
      have HB2 := Lib.hid (And.intro hB hT)
      clear hB hT
      have k1 := (Blk.cell HB2.out.1 1).trans (show _ = some (vi 9) from rfl)
      have k2 := (Blk.cell HB2.out.1 2).trans (show _ = some (vi 0) from rfl)
      have k4 := (Blk.cell HB2.out.1 4).trans (show _ = some (.string ⟨#[]⟩) from rfl)
      have f1 := Blk.frozen HB2.out.1 1
      have f2 := Blk.frozen HB2.out.1 2
      have f4 := Blk.frozen HB2.out.1 4
      have hp := fun W => Any.strings_HasPrefix shPrefix (txtL.extract 9 24) ⟨#[61, 61]⟩ W
      change ∀ W, Calls Tryz.prog 80 _ _ _ at hp
      rw [show Lib.hasPrefix (txtL.extract 9 24).data.toList (ByteArray.mk #[61, 61]).data.toList = false by decide +kernel] at hp
      have hx := fun W => Any.strings_IndexByte shIndexB ⟨#[40, 41, 44, 59, 61, 43, 45, 42, 47]⟩ (((txtL.extract 9 24)[0]'(by decide)).toNat : Int) W
      change ∀ W, Calls Tryz.prog 81 _ _ _ at hx
      rw [show Lib.indexByte (ByteArray.mk #[40, 41, 44, 59, 61, 43, 45, 42, 47]).data.toList (((txtL.extract 9 24)[0]'(by decide)).toNat : Int).toNat.toUInt8 = 1 by decide +kernel] at hx
      have HP := Lib.hid hp
      have HX := Lib.hid hx
      clear hp hx
      have hs : (txtL.extract 9 24).extract 0 1 = ⟨#[41]⟩ := by decide +kernel
      go_wp2_with (first | (go_at_call 78; refine (HJ.out _).mono ?_; rintro _ _ ⟨rfl, rfl⟩) | (go_at_call 80; refine (HP.out _).mono ?_; rintro _ _ ⟨rfl, rfl⟩) | (go_at_call 81; refine (HX.out _).mono ?_; rintro _ _ ⟨rfl, rfl⟩))
      go_end0
      exact ⟨rfl, Blk.set_ (Blk.set_ (Blk.set_ HB2.out.1 2 _) 4 _) 1 _, ((HB2.out.2.setCell (.inl (by simp)) _).setCell (.inl (by simp)) _).setCell (.inl (by simp)) _⟩
set_option maxHeartbeats 2000000 in
theorem adv_5 (r : Nat) (k a : Int) (s : ByteArray) (l : Int) (w : World) (h : RdB w r 10 k a s l) : Calls Tryz.prog 44 #[.pointer (some ⟨r, 0, none⟩)] w fun e w' => e = .returned (.tuple #[]) ∧ RdB w' r 12 3 11 ⟨#[61]⟩ l ∧ Tn [r] w w' := by
  have HS := Lib.hid (skip_5 r k a s l w h)
  clear h
  go_enter Tryz.func44, Tryz.ntmps44
  go_wp2_with fail
  refine HS.out.mono ?_
  rintro _ w1 ⟨rfl, hB, hT⟩
  have k0 := (Blk.cell hB 0).trans (show _ = some (.string txtL) from rfl)
  have k1 := (Blk.cell hB 1).trans (show _ = some (vi 11) from rfl)
  have k2 := (Blk.cell hB 2).trans (show _ = some (vi k) from rfl)
  have k3 := (Blk.cell hB 3).trans (show _ = some (vi a) from rfl)
  have k4 := (Blk.cell hB 4).trans (show _ = some (.string s) from rfl)
  have f2 := Blk.frozen hB 2
  have f3 := Blk.frozen hB 3
  have f4 := Blk.frozen hB 4
  have HB := Lib.hid (And.intro hB hT)
  have he : (txtL.extract 11 24).toList.isEmpty = false := by decide +kernel
  clear hB hT
  go_wp2
  go_quiet (fail)
  go_wp2
  clear k0 k1 k2 k3 k4 f2 f3 f4 he
  go_loopw [3] (fun v wr => ∃ j : Nat, j ≤ 0 ∧ v = vi j ∧ RdB wr r 11 0 11 ⟨#[]⟩ l ∧ Tn [r] w wr) (fun v _ => 0 - (intOf v).toNat)
  case atStart => exact ⟨0, by omega, rfl, Blk.set_ (Blk.set_ (Blk.set_ (HB.out.1.drewN _) 2 _) 3 _) 4 _, (((HB.out.2.drewN _).setCell (.inl (by simp)) _).setCell (.inl (by simp)) _).setCell (.inl (by simp)) _⟩
  case round =>
    rename World => w2
    obtain ⟨j, hj, rfl, hB, hT⟩ := hrel
    have hcase : j = 0 := by omega
    rcases hcase with rfl
    · have HJ := Lib.hid (fun W => joins_any (((txtL.extract 11 24)[0]'(by decide)).toNat : Int) W)
      rw [show joinB (((txtL.extract 11 24)[0]'(by decide)).toNat : Int) = false by decide] at HJ
      have HB2 := Lib.hid (And.intro hB hT)
      clear hB hT
      have k1 := (Blk.cell HB2.out.1 1).trans (show _ = some (vi 11) from rfl)
      have k2 := (Blk.cell HB2.out.1 2).trans (show _ = some (vi 0) from rfl)
      have k4 := (Blk.cell HB2.out.1 4).trans (show _ = some (.string ⟨#[]⟩) from rfl)
      have f1 := Blk.frozen HB2.out.1 1
      have f2 := Blk.frozen HB2.out.1 2
      have f4 := Blk.frozen HB2.out.1 4
      have hp := fun W => Any.strings_HasPrefix shPrefix (txtL.extract 11 24) ⟨#[61, 61]⟩ W
      change ∀ W, Calls Tryz.prog 80 _ _ _ at hp
      rw [show Lib.hasPrefix (txtL.extract 11 24).data.toList (ByteArray.mk #[61, 61]).data.toList = false by decide +kernel] at hp
      have hx := fun W => Any.strings_IndexByte shIndexB ⟨#[40, 41, 44, 59, 61, 43, 45, 42, 47]⟩ (((txtL.extract 11 24)[0]'(by decide)).toNat : Int) W
      change ∀ W, Calls Tryz.prog 81 _ _ _ at hx
      rw [show Lib.indexByte (ByteArray.mk #[40, 41, 44, 59, 61, 43, 45, 42, 47]).data.toList (((txtL.extract 11 24)[0]'(by decide)).toNat : Int).toNat.toUInt8 = 4 by decide +kernel] at hx
      have HP := Lib.hid hp
      have HX := Lib.hid hx
      clear hp hx
      have hs : (txtL.extract 11 24).extract 0 1 = ⟨#[61]⟩ := by decide +kernel
      go_wp2_with (first | (go_at_call 78; refine (HJ.out _).mono ?_; rintro _ _ ⟨rfl, rfl⟩) | (go_at_call 80; refine (HP.out _).mono ?_; rintro _ _ ⟨rfl, rfl⟩) | (go_at_call 81; refine (HX.out _).mono ?_; rintro _ _ ⟨rfl, rfl⟩))
      go_end0
      exact ⟨rfl, Blk.set_ (Blk.set_ (Blk.set_ HB2.out.1 2 _) 4 _) 1 _, ((HB2.out.2.setCell (.inl (by simp)) _).setCell (.inl (by simp)) _).setCell (.inl (by simp)) _⟩
set_option maxHeartbeats 2000000 in
theorem adv_6 (r : Nat) (k a : Int) (s : ByteArray) (l : Int) (w : World) (h : RdB w r 12 k a s l) : Calls Tryz.prog 44 #[.pointer (some ⟨r, 0, none⟩)] w fun e w' => e = .returned (.tuple #[]) ∧ RdB w' r 14 1 13 ⟨#[97]⟩ l ∧ Tn [r] w w' := by
  have HS := Lib.hid (skip_6 r k a s l w h)
  clear h
  go_enter Tryz.func44, Tryz.ntmps44
  go_wp2_with fail
  refine HS.out.mono ?_
  rintro _ w1 ⟨rfl, hB, hT⟩
  have k0 := (Blk.cell hB 0).trans (show _ = some (.string txtL) from rfl)
  have k1 := (Blk.cell hB 1).trans (show _ = some (vi 13) from rfl)
  have k2 := (Blk.cell hB 2).trans (show _ = some (vi k) from rfl)
  have k3 := (Blk.cell hB 3).trans (show _ = some (vi a) from rfl)
  have k4 := (Blk.cell hB 4).trans (show _ = some (.string s) from rfl)
  have f2 := Blk.frozen hB 2
  have f3 := Blk.frozen hB 3
  have f4 := Blk.frozen hB 4
  have HB := Lib.hid (And.intro hB hT)
  have he : (txtL.extract 13 24).toList.isEmpty = false := by decide +kernel
  clear hB hT
  go_wp2
  go_quiet (fail)
  go_wp2
  clear k0 k1 k2 k3 k4 f2 f3 f4 he
  go_loopw [3] (fun v wr => ∃ j : Nat, j ≤ 1 ∧ v = vi j ∧ RdB wr r 13 0 13 ⟨#[]⟩ l ∧ Tn [r] w wr) (fun v _ => 1 - (intOf v).toNat)
  case atStart => exact ⟨0, by omega, rfl, Blk.set_ (Blk.set_ (Blk.set_ (HB.out.1.drewN _) 2 _) 3 _) 4 _, (((HB.out.2.drewN _).setCell (.inl (by simp)) _).setCell (.inl (by simp)) _).setCell (.inl (by simp)) _⟩
  case round =>
    rename World => w2
    obtain ⟨j, hj, rfl, hB, hT⟩ := hrel
    have hcase : j = 0 ∨ j = 1 := by omega
    rcases hcase with rfl | rfl
    · have HJ := Lib.hid (fun W => joins_any (((txtL.extract 13 24)[0]'(by decide)).toNat : Int) W)
      rw [show joinB (((txtL.extract 13 24)[0]'(by decide)).toNat : Int) = true by decide] at HJ
      have HB2 := Lib.hid (And.intro hB hT)
      clear hB hT
      go_wp2_with (go_at_call 78; refine (HJ.out _).mono ?_; rintro _ _ ⟨rfl, rfl⟩)
      exact ⟨⟨1, by omega, by first | rfl | go_num, HB2.out.1, HB2.out.2⟩, by simp [intOf]⟩
    · have HJ := Lib.hid (fun W => joins_any (((txtL.extract 13 24)[1]'(by decide)).toNat : Int) W)
      rw [show joinB (((txtL.extract 13 24)[1]'(by decide)).toNat : Int) = false by decide] at HJ
      have HB2 := Lib.hid (And.intro hB hT)
      clear hB hT
      have k1 := (Blk.cell HB2.out.1 1).trans (show _ = some (vi 13) from rfl)
      have k2 := (Blk.cell HB2.out.1 2).trans (show _ = some (vi 0) from rfl)
      have k4 := (Blk.cell HB2.out.1 4).trans (show _ = some (.string ⟨#[]⟩) from rfl)
      have f1 := Blk.frozen HB2.out.1 1
      have f2 := Blk.frozen HB2.out.1 2
      have f4 := Blk.frozen HB2.out.1 4
      have HK := Lib.hid (fun W => kind_word ((txtL.extract 13 24).extract 0 1) (by decide) (by decide) W)
      go_wp2_with (first | (go_at_call 78; refine (HJ.out _).mono ?_; rintro _ _ ⟨rfl, rfl⟩) | (go_at_call 79; refine (HK.out _).mono ?_; rintro _ _ ⟨rfl, rfl⟩))
      have hs : (txtL.extract 13 24).extract 0 1 = ⟨#[97]⟩ := by decide
      rw [hs]
      go_end0
      exact ⟨rfl, Blk.set_ (Blk.set_ (Blk.set_ HB2.out.1 2 _) 4 _) 1 _, ((HB2.out.2.setCell (.inl (by simp)) _).setCell (.inl (by simp)) _).setCell (.inl (by simp)) _⟩
set_option maxHeartbeats 2000000 in
theorem adv_7 (r : Nat) (k a : Int) (s : ByteArray) (l : Int) (w : World) (h : RdB w r 14 k a s l) : Calls Tryz.prog 44 #[.pointer (some ⟨r, 0, none⟩)] w fun e w' => e = .returned (.tuple #[]) ∧ RdB w' r 16 3 15 ⟨#[42]⟩ l ∧ Tn [r] w w' := by
  have HS := Lib.hid (skip_7 r k a s l w h)
  clear h
  go_enter Tryz.func44, Tryz.ntmps44
  go_wp2_with fail
  refine HS.out.mono ?_
  rintro _ w1 ⟨rfl, hB, hT⟩
  have k0 := (Blk.cell hB 0).trans (show _ = some (.string txtL) from rfl)
  have k1 := (Blk.cell hB 1).trans (show _ = some (vi 15) from rfl)
  have k2 := (Blk.cell hB 2).trans (show _ = some (vi k) from rfl)
  have k3 := (Blk.cell hB 3).trans (show _ = some (vi a) from rfl)
  have k4 := (Blk.cell hB 4).trans (show _ = some (.string s) from rfl)
  have f2 := Blk.frozen hB 2
  have f3 := Blk.frozen hB 3
  have f4 := Blk.frozen hB 4
  have HB := Lib.hid (And.intro hB hT)
  have he : (txtL.extract 15 24).toList.isEmpty = false := by decide +kernel
  clear hB hT
  go_wp2
  go_quiet (fail)
  go_wp2
  clear k0 k1 k2 k3 k4 f2 f3 f4 he
  go_loopw [3] (fun v wr => ∃ j : Nat, j ≤ 0 ∧ v = vi j ∧ RdB wr r 15 0 15 ⟨#[]⟩ l ∧ Tn [r] w wr) (fun v _ => 0 - (intOf v).toNat)
  case atStart => exact ⟨0, by omega, rfl, Blk.set_ (Blk.set_ (Blk.set_ (HB.out.1.drewN _) 2 _) 3 _) 4 _, (((HB.out.2.drewN _).setCell (.inl (by simp)) _).setCell (.inl (by simp)) _).setCell (.inl (by simp)) _⟩
  case round =>
    rename World => w2
    obtain ⟨j, hj, rfl, hB, hT⟩ := hrel
    have hcase : j = 0 := by omega
    rcases hcase with rfl
    · have HJ := Lib.hid (fun W => joins_any (((txtL.extract 15 24)[0]'(by decide)).toNat : Int) W)
      rw [show joinB (((txtL.extract 15 24)[0]'(by decide)).toNat : Int) = false by decide] at HJ
      have HB2 := Lib.hid (And.intro hB hT)
      clear hB hT
      have k1 := (Blk.cell HB2.out.1 1).trans (show _ = some (vi 15) from rfl)
      have k2 := (Blk.cell HB2.out.1 2).trans (show _ = some (vi 0) from rfl)
      have k4 := (Blk.cell HB2.out.1 4).trans (show _ = some (.string ⟨#[]⟩) from rfl)
      have f1 := Blk.frozen HB2.out.1 1
      have f2 := Blk.frozen HB2.out.1 2
      have f4 := Blk.frozen HB2.out.1 4
      have hp := fun W => Any.strings_HasPrefix shPrefix (txtL.extract 15 24) ⟨#[61, 61]⟩ W
      change ∀ W, Calls Tryz.prog 80 _ _ _ at hp
      rw [show Lib.hasPrefix (txtL.extract 15 24).data.toList (ByteArray.mk #[61, 61]).data.toList = false by decide +kernel] at hp
      have hx := fun W => Any.strings_IndexByte shIndexB ⟨#[40, 41, 44, 59, 61, 43, 45, 42, 47]⟩ (((txtL.extract 15 24)[0]'(by decide)).toNat : Int) W
      change ∀ W, Calls Tryz.prog 81 _ _ _ at hx
      rw [show Lib.indexByte (ByteArray.mk #[40, 41, 44, 59, 61, 43, 45, 42, 47]).data.toList (((txtL.extract 15 24)[0]'(by decide)).toNat : Int).toNat.toUInt8 = 7 by decide +kernel] at hx
      have HP := Lib.hid hp
      have HX := Lib.hid hx
      clear hp hx
      have hs : (txtL.extract 15 24).extract 0 1 = ⟨#[42]⟩ := by decide +kernel
      go_wp2_with (first | (go_at_call 78; refine (HJ.out _).mono ?_; rintro _ _ ⟨rfl, rfl⟩) | (go_at_call 80; refine (HP.out _).mono ?_; rintro _ _ ⟨rfl, rfl⟩) | (go_at_call 81; refine (HX.out _).mono ?_; rintro _ _ ⟨rfl, rfl⟩))
      go_end0
      exact ⟨rfl, Blk.set_ (Blk.set_ (Blk.set_ HB2.out.1 2 _) 4 _) 1 _, ((HB2.out.2.setCell (.inl (by simp)) _).setCell (.inl (by simp)) _).setCell (.inl (by simp)) _⟩
set_option maxHeartbeats 2000000 in
theorem adv_8 (r : Nat) (k a : Int) (s : ByteArray) (l : Int) (w : World) (h : RdB w r 16 k a s l) : Calls Tryz.prog 44 #[.pointer (some ⟨r, 0, none⟩)] w fun e w' => e = .returned (.tuple #[]) ∧ RdB w' r 18 3 17 ⟨#[40]⟩ l ∧ Tn [r] w w' := by
  have HS := Lib.hid (skip_8 r k a s l w h)
  clear h
  go_enter Tryz.func44, Tryz.ntmps44
  go_wp2_with fail
  refine HS.out.mono ?_
  rintro _ w1 ⟨rfl, hB, hT⟩
  have k0 := (Blk.cell hB 0).trans (show _ = some (.string txtL) from rfl)
  have k1 := (Blk.cell hB 1).trans (show _ = some (vi 17) from rfl)
  have k2 := (Blk.cell hB 2).trans (show _ = some (vi k) from rfl)
  have k3 := (Blk.cell hB 3).trans (show _ = some (vi a) from rfl)
  have k4 := (Blk.cell hB 4).trans (show _ = some (.string s) from rfl)
  have f2 := Blk.frozen hB 2
  have f3 := Blk.frozen hB 3
  have f4 := Blk.frozen hB 4
  have HB := Lib.hid (And.intro hB hT)
  have he : (txtL.extract 17 24).toList.isEmpty = false := by decide +kernel
  clear hB hT
  go_wp2
  go_quiet (fail)
  go_wp2
  clear k0 k1 k2 k3 k4 f2 f3 f4 he
  go_loopw [3] (fun v wr => ∃ j : Nat, j ≤ 0 ∧ v = vi j ∧ RdB wr r 17 0 17 ⟨#[]⟩ l ∧ Tn [r] w wr) (fun v _ => 0 - (intOf v).toNat)
  case atStart => exact ⟨0, by omega, rfl, Blk.set_ (Blk.set_ (Blk.set_ (HB.out.1.drewN _) 2 _) 3 _) 4 _, (((HB.out.2.drewN _).setCell (.inl (by simp)) _).setCell (.inl (by simp)) _).setCell (.inl (by simp)) _⟩
  case round =>
    rename World => w2
    obtain ⟨j, hj, rfl, hB, hT⟩ := hrel
    have hcase : j = 0 := by omega
    rcases hcase with rfl
    · have HJ := Lib.hid (fun W => joins_any (((txtL.extract 17 24)[0]'(by decide)).toNat : Int) W)
      rw [show joinB (((txtL.extract 17 24)[0]'(by decide)).toNat : Int) = false by decide] at HJ
      have HB2 := Lib.hid (And.intro hB hT)
      clear hB hT
      have k1 := (Blk.cell HB2.out.1 1).trans (show _ = some (vi 17) from rfl)
      have k2 := (Blk.cell HB2.out.1 2).trans (show _ = some (vi 0) from rfl)
      have k4 := (Blk.cell HB2.out.1 4).trans (show _ = some (.string ⟨#[]⟩) from rfl)
      have f1 := Blk.frozen HB2.out.1 1
      have f2 := Blk.frozen HB2.out.1 2
      have f4 := Blk.frozen HB2.out.1 4
      have hp := fun W => Any.strings_HasPrefix shPrefix (txtL.extract 17 24) ⟨#[61, 61]⟩ W
      change ∀ W, Calls Tryz.prog 80 _ _ _ at hp
      rw [show Lib.hasPrefix (txtL.extract 17 24).data.toList (ByteArray.mk #[61, 61]).data.toList = false by decide +kernel] at hp
      have hx := fun W => Any.strings_IndexByte shIndexB ⟨#[40, 41, 44, 59, 61, 43, 45, 42, 47]⟩ (((txtL.extract 17 24)[0]'(by decide)).toNat : Int) W
      change ∀ W, Calls Tryz.prog 81 _ _ _ at hx
      rw [show Lib.indexByte (ByteArray.mk #[40, 41, 44, 59, 61, 43, 45, 42, 47]).data.toList (((txtL.extract 17 24)[0]'(by decide)).toNat : Int).toNat.toUInt8 = 0 by decide +kernel] at hx
      have HP := Lib.hid hp
      have HX := Lib.hid hx
      clear hp hx
      have hs : (txtL.extract 17 24).extract 0 1 = ⟨#[40]⟩ := by decide +kernel
      go_wp2_with (first | (go_at_call 78; refine (HJ.out _).mono ?_; rintro _ _ ⟨rfl, rfl⟩) | (go_at_call 80; refine (HP.out _).mono ?_; rintro _ _ ⟨rfl, rfl⟩) | (go_at_call 81; refine (HX.out _).mono ?_; rintro _ _ ⟨rfl, rfl⟩))
      go_end0
      exact ⟨rfl, Blk.set_ (Blk.set_ (Blk.set_ HB2.out.1 2 _) 4 _) 1 _, ((HB2.out.2.setCell (.inl (by simp)) _).setCell (.inl (by simp)) _).setCell (.inl (by simp)) _⟩
set_option maxHeartbeats 2000000 in
theorem adv_9 (r : Nat) (k a : Int) (s : ByteArray) (l : Int) (w : World) (h : RdB w r 18 k a s l) : Calls Tryz.prog 44 #[.pointer (some ⟨r, 0, none⟩)] w fun e w' => e = .returned (.tuple #[]) ∧ RdB w' r 19 1 18 ⟨#[97]⟩ l ∧ Tn [r] w w' := by
  have HS := Lib.hid (skip_9 r k a s l w h)
  clear h
  go_enter Tryz.func44, Tryz.ntmps44
  go_wp2_with fail
  refine HS.out.mono ?_
  rintro _ w1 ⟨rfl, hB, hT⟩
  have k0 := (Blk.cell hB 0).trans (show _ = some (.string txtL) from rfl)
  have k1 := (Blk.cell hB 1).trans (show _ = some (vi 18) from rfl)
  have k2 := (Blk.cell hB 2).trans (show _ = some (vi k) from rfl)
  have k3 := (Blk.cell hB 3).trans (show _ = some (vi a) from rfl)
  have k4 := (Blk.cell hB 4).trans (show _ = some (.string s) from rfl)
  have f2 := Blk.frozen hB 2
  have f3 := Blk.frozen hB 3
  have f4 := Blk.frozen hB 4
  have HB := Lib.hid (And.intro hB hT)
  have he : (txtL.extract 18 24).toList.isEmpty = false := by decide +kernel
  clear hB hT
  go_wp2
  go_quiet (fail)
  go_wp2
  clear k0 k1 k2 k3 k4 f2 f3 f4 he
  go_loopw [3] (fun v wr => ∃ j : Nat, j ≤ 1 ∧ v = vi j ∧ RdB wr r 18 0 18 ⟨#[]⟩ l ∧ Tn [r] w wr) (fun v _ => 1 - (intOf v).toNat)
  case atStart => exact ⟨0, by omega, rfl, Blk.set_ (Blk.set_ (Blk.set_ (HB.out.1.drewN _) 2 _) 3 _) 4 _, (((HB.out.2.drewN _).setCell (.inl (by simp)) _).setCell (.inl (by simp)) _).setCell (.inl (by simp)) _⟩
  case round =>
    rename World => w2
    obtain ⟨j, hj, rfl, hB, hT⟩ := hrel
    have hcase : j = 0 ∨ j = 1 := by omega
    rcases hcase with rfl | rfl
    · have HJ := Lib.hid (fun W => joins_any (((txtL.extract 18 24)[0]'(by decide)).toNat : Int) W)
      rw [show joinB (((txtL.extract 18 24)[0]'(by decide)).toNat : Int) = true by decide] at HJ
      have HB2 := Lib.hid (And.intro hB hT)
      clear hB hT
      go_wp2_with (go_at_call 78; refine (HJ.out _).mono ?_; rintro _ _ ⟨rfl, rfl⟩)
      exact ⟨⟨1, by omega, by first | rfl | go_num, HB2.out.1, HB2.out.2⟩, by simp [intOf]⟩
    · have HJ := Lib.hid (fun W => joins_any (((txtL.extract 18 24)[1]'(by decide)).toNat : Int) W)
      rw [show joinB (((txtL.extract 18 24)[1]'(by decide)).toNat : Int) = false by decide] at HJ
      have HB2 := Lib.hid (And.intro hB hT)
      clear hB hT
      have k1 := (Blk.cell HB2.out.1 1).trans (show _ = some (vi 18) from rfl)
      have k2 := (Blk.cell HB2.out.1 2).trans (show _ = some (vi 0) from rfl)
      have k4 := (Blk.cell HB2.out.1 4).trans (show _ = some (.string ⟨#[]⟩) from rfl)
      have f1 := Blk.frozen HB2.out.1 1
      have f2 := Blk.frozen HB2.out.1 2
      have f4 := Blk.frozen HB2.out.1 4
      have HK := Lib.hid (fun W => kind_word ((txtL.extract 18 24).extract 0 1) (by decide) (by decide) W)
      go_wp2_with (first | (go_at_call 78; refine (HJ.out _).mono ?_; rintro _ _ ⟨rfl, rfl⟩) | (go_at_call 79; refine (HK.out _).mono ?_; rintro _ _ ⟨rfl, rfl⟩))
      have hs : (txtL.extract 18 24).extract 0 1 = ⟨#[97]⟩ := by decide
      rw [hs]
      go_end0
      exact ⟨rfl, Blk.set_ (Blk.set_ (Blk.set_ HB2.out.1 2 _) 4 _) 1 _, ((HB2.out.2.setCell (.inl (by simp)) _).setCell (.inl (by simp)) _).setCell (.inl (by simp)) _⟩
set_option maxHeartbeats 2000000 in
theorem adv_10 (r : Nat) (k a : Int) (s : ByteArray) (l : Int) (w : World) (h : RdB w r 19 k a s l) : Calls Tryz.prog 44 #[.pointer (some ⟨r, 0, none⟩)] w fun e w' => e = .returned (.tuple #[]) ∧ RdB w' r 21 3 20 ⟨#[43]⟩ l ∧ Tn [r] w w' := by
  have HS := Lib.hid (skip_10 r k a s l w h)
  clear h
  go_enter Tryz.func44, Tryz.ntmps44
  go_wp2_with fail
  refine HS.out.mono ?_
  rintro _ w1 ⟨rfl, hB, hT⟩
  have k0 := (Blk.cell hB 0).trans (show _ = some (.string txtL) from rfl)
  have k1 := (Blk.cell hB 1).trans (show _ = some (vi 20) from rfl)
  have k2 := (Blk.cell hB 2).trans (show _ = some (vi k) from rfl)
  have k3 := (Blk.cell hB 3).trans (show _ = some (vi a) from rfl)
  have k4 := (Blk.cell hB 4).trans (show _ = some (.string s) from rfl)
  have f2 := Blk.frozen hB 2
  have f3 := Blk.frozen hB 3
  have f4 := Blk.frozen hB 4
  have HB := Lib.hid (And.intro hB hT)
  have he : (txtL.extract 20 24).toList.isEmpty = false := by decide +kernel
  clear hB hT
  go_wp2
  go_quiet (fail)
  go_wp2
  clear k0 k1 k2 k3 k4 f2 f3 f4 he
  go_loopw [3] (fun v wr => ∃ j : Nat, j ≤ 0 ∧ v = vi j ∧ RdB wr r 20 0 20 ⟨#[]⟩ l ∧ Tn [r] w wr) (fun v _ => 0 - (intOf v).toNat)
  case atStart => exact ⟨0, by omega, rfl, Blk.set_ (Blk.set_ (Blk.set_ (HB.out.1.drewN _) 2 _) 3 _) 4 _, (((HB.out.2.drewN _).setCell (.inl (by simp)) _).setCell (.inl (by simp)) _).setCell (.inl (by simp)) _⟩
  case round =>
    rename World => w2
    obtain ⟨j, hj, rfl, hB, hT⟩ := hrel
    have hcase : j = 0 := by omega
    rcases hcase with rfl
    · have HJ := Lib.hid (fun W => joins_any (((txtL.extract 20 24)[0]'(by decide)).toNat : Int) W)
      rw [show joinB (((txtL.extract 20 24)[0]'(by decide)).toNat : Int) = false by decide] at HJ
      have HB2 := Lib.hid (And.intro hB hT)
      clear hB hT
      have k1 := (Blk.cell HB2.out.1 1).trans (show _ = some (vi 20) from rfl)
      have k2 := (Blk.cell HB2.out.1 2).trans (show _ = some (vi 0) from rfl)
      have k4 := (Blk.cell HB2.out.1 4).trans (show _ = some (.string ⟨#[]⟩) from rfl)
      have f1 := Blk.frozen HB2.out.1 1
      have f2 := Blk.frozen HB2.out.1 2
      have f4 := Blk.frozen HB2.out.1 4
      have hp := fun W => Any.strings_HasPrefix shPrefix (txtL.extract 20 24) ⟨#[61, 61]⟩ W
      change ∀ W, Calls Tryz.prog 80 _ _ _ at hp
      rw [show Lib.hasPrefix (txtL.extract 20 24).data.toList (ByteArray.mk #[61, 61]).data.toList = false by decide +kernel] at hp
      have hx := fun W => Any.strings_IndexByte shIndexB ⟨#[40, 41, 44, 59, 61, 43, 45, 42, 47]⟩ (((txtL.extract 20 24)[0]'(by decide)).toNat : Int) W
      change ∀ W, Calls Tryz.prog 81 _ _ _ at hx
      rw [show Lib.indexByte (ByteArray.mk #[40, 41, 44, 59, 61, 43, 45, 42, 47]).data.toList (((txtL.extract 20 24)[0]'(by decide)).toNat : Int).toNat.toUInt8 = 5 by decide +kernel] at hx
      have HP := Lib.hid hp
      have HX := Lib.hid hx
      clear hp hx
      have hs : (txtL.extract 20 24).extract 0 1 = ⟨#[43]⟩ := by decide +kernel
      go_wp2_with (first | (go_at_call 78; refine (HJ.out _).mono ?_; rintro _ _ ⟨rfl, rfl⟩) | (go_at_call 80; refine (HP.out _).mono ?_; rintro _ _ ⟨rfl, rfl⟩) | (go_at_call 81; refine (HX.out _).mono ?_; rintro _ _ ⟨rfl, rfl⟩))
      go_end0
      exact ⟨rfl, Blk.set_ (Blk.set_ (Blk.set_ HB2.out.1 2 _) 4 _) 1 _, ((HB2.out.2.setCell (.inl (by simp)) _).setCell (.inl (by simp)) _).setCell (.inl (by simp)) _⟩
set_option maxHeartbeats 2000000 in
theorem adv_11 (r : Nat) (k a : Int) (s : ByteArray) (l : Int) (w : World) (h : RdB w r 21 k a s l) : Calls Tryz.prog 44 #[.pointer (some ⟨r, 0, none⟩)] w fun e w' => e = .returned (.tuple #[]) ∧ RdB w' r 23 2 22 ⟨#[49]⟩ l ∧ Tn [r] w w' := by
  have HS := Lib.hid (skip_11 r k a s l w h)
  clear h
  go_enter Tryz.func44, Tryz.ntmps44
  go_wp2_with fail
  refine HS.out.mono ?_
  rintro _ w1 ⟨rfl, hB, hT⟩
  have k0 := (Blk.cell hB 0).trans (show _ = some (.string txtL) from rfl)
  have k1 := (Blk.cell hB 1).trans (show _ = some (vi 22) from rfl)
  have k2 := (Blk.cell hB 2).trans (show _ = some (vi k) from rfl)
  have k3 := (Blk.cell hB 3).trans (show _ = some (vi a) from rfl)
  have k4 := (Blk.cell hB 4).trans (show _ = some (.string s) from rfl)
  have f2 := Blk.frozen hB 2
  have f3 := Blk.frozen hB 3
  have f4 := Blk.frozen hB 4
  have HB := Lib.hid (And.intro hB hT)
  have he : (txtL.extract 22 24).toList.isEmpty = false := by decide +kernel
  clear hB hT
  go_wp2
  go_quiet (fail)
  go_wp2
  clear k0 k1 k2 k3 k4 f2 f3 f4 he
  go_loopw [3] (fun v wr => ∃ j : Nat, j ≤ 1 ∧ v = vi j ∧ RdB wr r 22 0 22 ⟨#[]⟩ l ∧ Tn [r] w wr) (fun v _ => 1 - (intOf v).toNat)
  case atStart => exact ⟨0, by omega, rfl, Blk.set_ (Blk.set_ (Blk.set_ (HB.out.1.drewN _) 2 _) 3 _) 4 _, (((HB.out.2.drewN _).setCell (.inl (by simp)) _).setCell (.inl (by simp)) _).setCell (.inl (by simp)) _⟩
  case round =>
    rename World => w2
    obtain ⟨j, hj, rfl, hB, hT⟩ := hrel
    have hcase : j = 0 ∨ j = 1 := by omega
    rcases hcase with rfl | rfl
    · have HJ := Lib.hid (fun W => joins_any (((txtL.extract 22 24)[0]'(by decide)).toNat : Int) W)
      rw [show joinB (((txtL.extract 22 24)[0]'(by decide)).toNat : Int) = true by decide] at HJ
      have HB2 := Lib.hid (And.intro hB hT)
      clear hB hT
      go_wp2_with (go_at_call 78; refine (HJ.out _).mono ?_; rintro _ _ ⟨rfl, rfl⟩)
      exact ⟨⟨1, by omega, by first | rfl | go_num, HB2.out.1, HB2.out.2⟩, by simp [intOf]⟩
    · have HJ := Lib.hid (fun W => joins_any (((txtL.extract 22 24)[1]'(by decide)).toNat : Int) W)
      rw [show joinB (((txtL.extract 22 24)[1]'(by decide)).toNat : Int) = false by decide] at HJ
      have HB2 := Lib.hid (And.intro hB hT)
      clear hB hT
      have k1 := (Blk.cell HB2.out.1 1).trans (show _ = some (vi 22) from rfl)
      have k2 := (Blk.cell HB2.out.1 2).trans (show _ = some (vi 0) from rfl)
      have k4 := (Blk.cell HB2.out.1 4).trans (show _ = some (.string ⟨#[]⟩) from rfl)
      have f1 := Blk.frozen HB2.out.1 1
      have f2 := Blk.frozen HB2.out.1 2
      have f4 := Blk.frozen HB2.out.1 4
      have hs : (txtL.extract 22 24).extract 0 1 = ⟨#[49]⟩ := by decide
      clear k1 k2 k4 f1 f2 f4
      go_wp2_with (go_at_call 78; refine (HJ.out _).mono ?_; rintro _ _ ⟨rfl, rfl⟩)
      refine (kind_one _).mono ?_
      rintro _ w3 ⟨rfl, hb3⟩
      have HB3 : Hid (RdB w3 r 22 0 22 ⟨#[]⟩ l ∧ Tn [r] w w3) := Lib.hid ⟨Blk.below HB2.out.1 hb3 (Blk.lt HB2.out.1), HB2.out.2.trans (Tn.of_below hb3)⟩
      have k1 := (Blk.cell HB3.out.1 1).trans (show _ = some (vi 22) from rfl)
      have k2 := (Blk.cell HB3.out.1 2).trans (show _ = some (vi 0) from rfl)
      have k4 := (Blk.cell HB3.out.1 4).trans (show _ = some (.string ⟨#[]⟩) from rfl)
      have f1 := Blk.frozen HB3.out.1 1
      have f2 := Blk.frozen HB3.out.1 2
      have f4 := Blk.frozen HB3.out.1 4
      clear hb3
      go_wp2
      go_end0
      exact ⟨rfl, Blk.set_ (Blk.set_ (Blk.set_ HB3.out.1 2 _) 4 _) 1 _, ((HB3.out.2.setCell (.inl (by simp)) _).setCell (.inl (by simp)) _).setCell (.inl (by simp)) _⟩
set_option maxHeartbeats 2000000 in
theorem adv_12 (r : Nat) (k a : Int) (s : ByteArray) (l : Int) (w : World) (h : RdB w r 23 k a s l) : Calls Tryz.prog 44 #[.pointer (some ⟨r, 0, none⟩)] w fun e w' => e = .returned (.tuple #[]) ∧ RdB w' r 24 3 23 ⟨#[41]⟩ l ∧ Tn [r] w w' := by
  have HS := Lib.hid (skip_12 r k a s l w h)
  clear h
  go_enter Tryz.func44, Tryz.ntmps44
  go_wp2_with fail
  refine HS.out.mono ?_
  rintro _ w1 ⟨rfl, hB, hT⟩
  have k0 := (Blk.cell hB 0).trans (show _ = some (.string txtL) from rfl)
  have k1 := (Blk.cell hB 1).trans (show _ = some (vi 23) from rfl)
  have k2 := (Blk.cell hB 2).trans (show _ = some (vi k) from rfl)
  have k3 := (Blk.cell hB 3).trans (show _ = some (vi a) from rfl)
  have k4 := (Blk.cell hB 4).trans (show _ = some (.string s) from rfl)
  have f2 := Blk.frozen hB 2
  have f3 := Blk.frozen hB 3
  have f4 := Blk.frozen hB 4
  have HB := Lib.hid (And.intro hB hT)
  have he : (txtL.extract 23 24).toList.isEmpty = false := by decide +kernel
  clear hB hT
  go_wp2
  go_quiet (fail)
  go_wp2
  clear k0 k1 k2 k3 k4 f2 f3 f4 he
  go_loopw [3] (fun v wr => ∃ j : Nat, j ≤ 0 ∧ v = vi j ∧ RdB wr r 23 0 23 ⟨#[]⟩ l ∧ Tn [r] w wr) (fun v _ => 0 - (intOf v).toNat)
  case atStart => exact ⟨0, by omega, rfl, Blk.set_ (Blk.set_ (Blk.set_ (HB.out.1.drewN _) 2 _) 3 _) 4 _, (((HB.out.2.drewN _).setCell (.inl (by simp)) _).setCell (.inl (by simp)) _).setCell (.inl (by simp)) _⟩
  case round =>
    rename World => w2
    obtain ⟨j, hj, rfl, hB, hT⟩ := hrel
    have hcase : j = 0 := by omega
    rcases hcase with rfl
    · have HJ := Lib.hid (fun W => joins_any (((txtL.extract 23 24)[0]'(by decide)).toNat : Int) W)
      rw [show joinB (((txtL.extract 23 24)[0]'(by decide)).toNat : Int) = false by decide] at HJ
      have HB2 := Lib.hid (And.intro hB hT)
      clear hB hT
      have k1 := (Blk.cell HB2.out.1 1).trans (show _ = some (vi 23) from rfl)
      have k2 := (Blk.cell HB2.out.1 2).trans (show _ = some (vi 0) from rfl)
      have k4 := (Blk.cell HB2.out.1 4).trans (show _ = some (.string ⟨#[]⟩) from rfl)
      have f1 := Blk.frozen HB2.out.1 1
      have f2 := Blk.frozen HB2.out.1 2
      have f4 := Blk.frozen HB2.out.1 4
      have hp := fun W => Any.strings_HasPrefix shPrefix (txtL.extract 23 24) ⟨#[61, 61]⟩ W
      change ∀ W, Calls Tryz.prog 80 _ _ _ at hp
      rw [show Lib.hasPrefix (txtL.extract 23 24).data.toList (ByteArray.mk #[61, 61]).data.toList = false by decide +kernel] at hp
      have hx := fun W => Any.strings_IndexByte shIndexB ⟨#[40, 41, 44, 59, 61, 43, 45, 42, 47]⟩ (((txtL.extract 23 24)[0]'(by decide)).toNat : Int) W
      change ∀ W, Calls Tryz.prog 81 _ _ _ at hx
      rw [show Lib.indexByte (ByteArray.mk #[40, 41, 44, 59, 61, 43, 45, 42, 47]).data.toList (((txtL.extract 23 24)[0]'(by decide)).toNat : Int).toNat.toUInt8 = 1 by decide +kernel] at hx
      have HP := Lib.hid hp
      have HX := Lib.hid hx
      clear hp hx
      have hs : (txtL.extract 23 24).extract 0 1 = ⟨#[41]⟩ := by decide +kernel
      go_wp2_with (first | (go_at_call 78; refine (HJ.out _).mono ?_; rintro _ _ ⟨rfl, rfl⟩) | (go_at_call 80; refine (HP.out _).mono ?_; rintro _ _ ⟨rfl, rfl⟩) | (go_at_call 81; refine (HX.out _).mono ?_; rintro _ _ ⟨rfl, rfl⟩))
      go_end0
      exact ⟨rfl, Blk.set_ (Blk.set_ (Blk.set_ HB2.out.1 2 _) 4 _) 1 _, ((HB2.out.2.setCell (.inl (by simp)) _).setCell (.inl (by simp)) _).setCell (.inl (by simp)) _⟩
set_option maxHeartbeats 2000000 in
theorem adv_13 (r : Nat) (k a : Int) (s : ByteArray) (l : Int) (w : World) (h : RdB w r 24 k a s l) : Calls Tryz.prog 44 #[.pointer (some ⟨r, 0, none⟩)] w fun e w' => e = .returned (.tuple #[]) ∧ RdB w' r 24 0 24 ⟨#[]⟩ l ∧ Tn [r] w w' := by
  have HS := Lib.hid (skip_13 r k a s l w h)
  clear h
  go_enter Tryz.func44, Tryz.ntmps44
  go_wp2_with fail
  refine HS.out.mono ?_
  rintro _ w1 ⟨rfl, hB, hT⟩
  have k0 := (Blk.cell hB 0).trans (show _ = some (.string txtL) from rfl)
  have k1 := (Blk.cell hB 1).trans (show _ = some (vi 24) from rfl)
  have k2 := (Blk.cell hB 2).trans (show _ = some (vi k) from rfl)
  have k3 := (Blk.cell hB 3).trans (show _ = some (vi a) from rfl)
  have k4 := (Blk.cell hB 4).trans (show _ = some (.string s) from rfl)
  have f2 := Blk.frozen hB 2
  have f3 := Blk.frozen hB 3
  have f4 := Blk.frozen hB 4
  have HB := Lib.hid (And.intro hB hT)
  have he : (txtL.extract 24 24).toList.isEmpty = true := by decide +kernel
  clear hB hT
  go_wp2
  go_quiet (fail)
  go_wp2
  refine bodyPost_ret (results_none rfl _ _ _) rfl ⟨rfl, Blk.set_ (Blk.set_ (Blk.set_ (HB.out.1.drewN _) 2 _) 3 _) 4 _, (((HB.out.2.drewN _).setCell (.inl (by simp)) _).setCell (.inl (by simp)) _).setCell (.inl (by simp)) _⟩
end Go.Proofs.YtpkhcncempoohaaGreatDoor

namespace Go.Proofs.YtpkhcncempoohaaGreatDoor
open Go.RowKit Zp
def tokK (i : Nat) : Int := [0, 1, 1, 3, 1, 3, 3, 1, 3, 3, 1, 3, 2, 3, 0].getD i 0
def tokA (i : Nat) : Int := [0, 0, 3, 7, 8, 9, 11, 13, 15, 17, 18, 20, 22, 23, 24].getD i 0
def tokN (i : Nat) : Int := [0, 2, 7, 8, 9, 10, 12, 14, 16, 18, 19, 21, 23, 24, 24].getD i 0
def tokS (i : Nat) : ByteArray := [⟨#[]⟩, ⟨#[102, 110]⟩, ⟨#[109, 97, 105, 110]⟩, ⟨#[40]⟩, ⟨#[97]⟩, ⟨#[41]⟩, ⟨#[61]⟩, ⟨#[97]⟩, ⟨#[42]⟩, ⟨#[40]⟩, ⟨#[97]⟩, ⟨#[43]⟩, ⟨#[49]⟩, ⟨#[41]⟩, ⟨#[]⟩].getD i ⟨#[]⟩
def RT (w : World) (r i : Nat) (l : Int) : Prop := RdB w r (tokN i) (tokK i) (tokA i) (tokS i) l
theorem RT.below {w w' : World} {r i : Nat} {l : Int} (h : RT w r i l) (hb : Below w.heap.size w w') : RT w' r i l := Blk.below h hb (Blk.lt h)
theorem RT.lt {w : World} {r i : Nat} {l : Int} (h : RT w r i l) : r < w.heap.size := Blk.lt h
theorem RT.tn {w w' : World} {r i : Nat} {l : Int} (h : RT w r i l) {X : List Nat} (ht : Tn X w w') (hx : ¬ r ∈ X) : RT w' r i l := Blk.tn h ht hx
def AdvT (r i : Nat) (l : Int) (w : World) (e : Ending) (w' : World) : Prop := e = .returned (.tuple #[]) ∧ RT w' r i l ∧ Tn [r] w w'
theorem advance_any (r i : Nat) (l : Int) (hi : i < 14) (w : World) (h : RT w r i l) : Calls Tryz.prog 44 #[.pointer (some ⟨r, 0, none⟩)] w (AdvT r (i + 1) l w) := by
  have hc : i = 0 ∨ i = 1 ∨ i = 2 ∨ i = 3 ∨ i = 4 ∨ i = 5 ∨ i = 6 ∨ i = 7 ∨ i = 8 ∨ i = 9 ∨ i = 10 ∨ i = 11 ∨ i = 12 ∨ i = 13 := by omega
  rcases hc with rfl | rfl | rfl | rfl | rfl | rfl | rfl | rfl | rfl | rfl | rfl | rfl | rfl | rfl
  · exact adv_0 r _ _ _ l w h
  · exact adv_1 r _ _ _ l w h
  · exact adv_2 r _ _ _ l w h
  · exact adv_3 r _ _ _ l w h
  · exact adv_4 r _ _ _ l w h
  · exact adv_5 r _ _ _ l w h
  · exact adv_6 r _ _ _ l w h
  · exact adv_7 r _ _ _ l w h
  · exact adv_8 r _ _ _ l w h
  · exact adv_9 r _ _ _ l w h
  · exact adv_10 r _ _ _ l w h
  · exact adv_11 r _ _ _ l w h
  · exact adv_12 r _ _ _ l w h
  · exact adv_13 r _ _ _ l w h
def isB (i : Nat) (t : ByteArray) : Bool := (tokK i == 3 || tokK i == 1) && (tokS i).toList == t.toList
set_option maxHeartbeats 1000000 in
theorem is_any' (r : Nat) (n k a l : Int) (s t : ByteArray) (w : World) (h : RdB w r n k a s l) : Calls Tryz.prog 130 #[.pointer (some ⟨r, 0, none⟩), .string t] w fun e w' => e = .returned (.bool ((k == 3 || k == 1) && s.toList == t.toList)) ∧ w = w' := by
  have k2 := (Blk.cell h 2).trans (show _ = some (vi k) from rfl)
  have k4 := (Blk.cell h 4).trans (show _ = some (.string s) from rfl)
  clear h
  go_enter Tryz.func130, Tryz.ntmps130
  go_wp2
  all_goals (go_ret; exact ⟨by simp_all, rfl⟩)
theorem isT_any (r i : Nat) (l : Int) (t : ByteArray) (w : World) (h : RT w r i l) : Calls Tryz.prog 130 #[.pointer (some ⟨r, 0, none⟩), .string t] w fun e w' => e = .returned (.bool (isB i t)) ∧ w = w' := is_any' r _ _ _ l _ t w h
theorem skipped_no (r i : Nat) (l : Int) (t : ByteArray) (ht : isB i t = false) (w : World) (h : RT w r i l) : Calls Tryz.prog 127 #[.pointer (some ⟨r, 0, none⟩), .string t] w fun e w' => e = .returned (.bool false) ∧ w = w' := by
  have HI := Lib.hid (isT_any r i l t w h)
  rw [ht] at HI
  clear h ht
  go_enter Tryz.func127, Tryz.ntmps127
  go_wp2_with fail
  refine HI.out.mono ?_
  rintro _ _ ⟨rfl, rfl⟩
  go_wp2
  go_ret
  exact ⟨rfl, rfl⟩
theorem skipped_yes (r i : Nat) (l : Int) (t : ByteArray) (ht : isB i t = true) (hi : i < 14) (w : World) (h : RT w r i l) : Calls Tryz.prog 127 #[.pointer (some ⟨r, 0, none⟩), .string t] w fun e w' => e = .returned (.bool true) ∧ RT w' r (i + 1) l ∧ Tn [r] w w' := by
  have HI := Lib.hid (isT_any r i l t w h)
  rw [ht] at HI
  have HA := Lib.hid (advance_any r i l hi w h)
  clear h ht
  go_enter Tryz.func127, Tryz.ntmps127
  go_wp2_with fail
  refine HI.out.mono ?_
  rintro _ _ ⟨rfl, rfl⟩
  go_wp2_with fail
  refine HA.out.mono ?_
  rintro _ w1 ⟨rfl, hR, hT⟩
  go_wp2
  go_ret
  exact ⟨rfl, hR, hT⟩
theorem must_yes' (r i : Nat) (l : Int) (t : ByteArray) (ht : isB i t = true) (hi : i < 14) (w : World) (h : RT w r i l) : Calls Tryz.prog 82 #[.pointer (some ⟨r, 0, none⟩), .string t] w (AdvT r (i + 1) l w) := by
  have HI := Lib.hid (skipped_yes r i l t ht hi w h)
  clear h ht
  go_enter Tryz.func82, Tryz.ntmps82
  go_wp2_with fail
  refine HI.out.mono ?_
  rintro _ w1 ⟨rfl, hR, hT⟩
  go_wp2
  go_end0
  exact ⟨rfl, hR, hT⟩
set_option maxHeartbeats 1000000 in
theorem enter_any (r i : Nat) (l : Nat) (hl : l < 60) (hi : i < 14) (w : World) (h : RT w r i l) : Calls Tryz.prog 131 #[.pointer (some ⟨r, 0, none⟩)] w (AdvT r (i + 1) ((l : Int) + 1) w) := by
  have k5 := (Blk.cell h 5).trans (show _ = some (vi l) from rfl)
  have f5 := Blk.frozen h 5
  have q : ¬ ((l : Int) = 64) := by omega
  have hw : IntKind.i64.wrap ((l : Int) + 1) = (l : Int) + 1 := IntWalk.i64_in _ (by constructor <;> omega)
  have hR1 : RT (w.setCell ⟨r, 5, none⟩ (vi ((l : Int) + 1))) r i ((l : Int) + 1) := Blk.set_ h 5 _
  have hT1 : Tn [r] w (w.setCell ⟨r, 5, none⟩ (vi ((l : Int) + 1))) := (Tn.refl [r] w).setCell (.inl (by simp)) _
  have HA := Lib.hid (And.intro (advance_any r i _ hi _ hR1) hT1)
  clear h hR1 hT1
  go_enter Tryz.func131, Tryz.ntmps131
  go_wp2_with fail
  refine HA.out.1.mono ?_
  rintro _ w1 ⟨rfl, hR, hT⟩
  have HT := Lib.hid (And.intro hR (HA.out.2.trans hT))
  clear hR hT
  go_wp2
  go_end0
  exact ⟨rfl, HT.out.1, HT.out.2⟩
theorem own_main (w : World) : Calls Tryz.prog 129 #[.string ⟨#[109, 97, 105, 110]⟩] w fun e w' => e = .returned (.bool false) ∧ w = w' := by
  go_enter Tryz.func129, Tryz.ntmps129
  go_wp2
  go_ret
  exact ⟨rfl, rfl⟩
theorem own_a (w : World) : Calls Tryz.prog 129 #[.string ⟨#[97]⟩] w fun e w' => e = .returned (.bool false) ∧ w = w' := by
  go_enter Tryz.func129, Tryz.ntmps129
  go_wp2
  go_ret
  exact ⟨rfl, rfl⟩
set_option maxHeartbeats 1000000 in
theorem name_any (r i : Nat) (l : Int) (hk : tokK i = 1) (hs : (tokS i).size ≤ 16) (hi : i < 14) (ho : ∀ w, Calls Tryz.prog 129 #[.string (tokS i)] w fun e w' => e = .returned (.bool false) ∧ w = w') (w : World) (h : RT w r i l) :
    Calls Tryz.prog 83 #[.pointer (some ⟨r, 0, none⟩)] w fun e w' => e = .returned (.tuple #[.string (tokS i), vi (tokA i)]) ∧ RT w' r (i + 1) l ∧ Tn [r] w w' := by
  have k2 := (Blk.cell h 2).trans (show _ = some (vi (tokK i)) from rfl)
  have k3 := (Blk.cell h 3).trans (show _ = some (vi (tokA i)) from rfl)
  have k4 := (Blk.cell h 4).trans (show _ = some (.string (tokS i)) from rfl)
  rw [hk] at k2
  have HO := Lib.hid ho
  obtain ⟨S, hS⟩ : ∃ S, S = tokS i := ⟨_, rfl⟩
  obtain ⟨A, hA⟩ : ∃ A, A = tokA i := ⟨_, rfl⟩
  rw [← hS] at k4 HO hs ⊢
  rw [← hA] at k3 ⊢
  have hz : ¬ ((16 : Int) < (S.size : Int)) := by omega
  have HR := Lib.hid h
  clear h ho hS hA hs hk
  go_enter Tryz.func83, Tryz.ntmps83
  go_wp2_with fail
  refine (HO.out _).mono ?_
  rintro _ _ ⟨rfl, rfl⟩
  have hb : Below w.heap.size w (w.alloc (.cells #[vi 1, vi A, .string S] 97)) := (Below.refl _ _).alloc (Nat.le_refl _) _
  have hB := Blk.new w 97 #[vi 1, vi A, .string S]
  have HA := Lib.hid (advance_any r i l hi _ (HR.out.below hb))
  have HB := Lib.hid (And.intro hb hB)
  clear hb hB k2 k3 k4
  go_wp2_with fail
  refine HA.out.mono ?_
  rintro _ w1 ⟨rfl, hR, hT⟩
  have hB1 := HB.out.2.tn hT (by have := HR.out.lt; simp; omega)
  have y1 := (hB1.cell 1).trans (show _ = some (vi A) from rfl)
  have y2 := (hB1.cell 2).trans (show _ = some (.string S) from rfl)
  have HT := Lib.hid (And.intro hR ((Tn.of_below (X := [r]) HB.out.1).trans hT))
  clear hR hT hB1
  go_wp2
  go_quiet (fail)
  go_wp2
  exact bodyPost_ret (v := .tuple #[.string S, vi A]) (by simp [results, Tryz.results83, go_sem]) rfl ⟨rfl, HT.out.1.tn ((Tn.refl [] _).drewN _) (by simp), HT.out.2.drewN _⟩
end Go.Proofs.YtpkhcncempoohaaGreatDoor

namespace Go.Proofs.YtpkhcncempoohaaGreatDoor
open Go.RowKit Zp
def ZeroFrom (p : Nat) [NeZero p] (xs : List Int) (n : Nat) : Prop := ∀ i, n ≤ i → co (els p xs) i = 0
theorem ZeroFrom.start (p : Nat) [NeZero p] (xs : List Int) : ZeroFrom p xs xs.length := fun i hi => co_of_ge (by simpa using hi)
theorem ZeroFrom.next {p : Nat} [NeZero p] {xs : List Int} {n : Nat} (h : ZeroFrom p xs (n + 1)) (h0 : co (els p xs) n = 0) : ZeroFrom p xs n := fun i hi => by
  by_cases he : i = n
  · rw [he]; exact h0
  · exact h i (by omega)
theorem ZeroFrom.done {p : Nat} [NeZero p] {xs : List Int} {n : Nat} (h : ZeroFrom p xs n) (hn : n = 0 ∨ co (els p xs) (n - 1) ≠ 0) : degL (els p xs) = (n : Int) - 1 := by
  unfold degL
  rw [(trimAt_iff_co.2 ⟨h, hn⟩).length]
def DegRel (p : Nat) [NeZero p] (xs : List Int) (i : Value) : Prop := ∃ k : Nat, k ≤ xs.length ∧ i = vi ((k : Int) - 1) ∧ ZeroFrom p xs k
set_option maxHeartbeats 1000000 in
theorem degree_any (p : Nat) [NeZero p] (hp2 : p ≤ 2147483647) (b : Nat) (A : Option Addr) (cap : Nat) (xs : List Int) (hxs : ∀ n ∈ xs, I64 n) (hreach : xs.length * 8 ≤ 281474976710656) (w : World) (hc : w.cell? ⟨b, 0, none⟩ = some (vi p)) (hs : SL w A xs) :
    Calls Tryz.prog 103 #[.pointer (some ⟨b, 0, none⟩), .slice A xs.length cap] w fun e w' => e = .returned (vi (degL (els p xs))) ∧ w = w' := by
  obtain ⟨len, hlen⟩ : ∃ len, len = xs.length := ⟨_, rfl⟩
  rw [← hlen]
  rw [← hlen] at hreach
  have HL := Lib.hid hlen
  clear hlen
  go_enter Tryz.func103, Tryz.ntmps103
  go_wp2
  go_loop [5] (fun i => DegRel p xs i) (fun i => (intOf i + 1).toNat)
  case atStart => exact ⟨len, by rw [HL.out]; exact Nat.le_refl _, rfl, by rw [HL.out]; exact ZeroFrom.start p xs⟩
  case round =>
    obtain ⟨k, hk, rfl, hz⟩ := hrel
    rw [← HL.out] at hk
    have HZ := Lib.hid hz
    clear hz
    by_cases h0 : k = 0
    · subst h0
      have t1 : decide ((0 : Int) ≤ (((0 : Nat) : Int) - 1)) = false := by simp
      go_wp2
      go_ret
      exact ⟨ret_int (HZ.out.done (.inl rfl)).symm, rfl⟩
    · have i0 : (0 : Int) ≤ (k : Int) - 1 := by omega
      have i1 : (1 : Int) ≤ (k : Int) := by omega
      have i2 : ((k : Int) - 1).toNat = k - 1 := by omega
      have hkx : k - 1 < xs.length := by rw [← HL.out]; omega
      obtain ⟨ad, rfl, hab, hcell⟩ := hs.at_ hkx
      have hI := hxs _ (List.getElem_mem hkx)
      have hco : co (els p xs) (k - 1) = el p xs[k - 1] := by rw [co_of_lt (by simpa using hkx)]; simp
      obtain ⟨x, hx⟩ : ∃ x, x = xs[k - 1] := ⟨_, rfl⟩
      rw [← hx] at hI hcell hco
      have hcell' : w.cell? (ad.add ((k : Int) - 1).toNat) = some (vi x) := by rw [i2]; exact hcell
      have HC := Lib.hid hco
      clear hx hco i2
      by_cases hx0 : el p x = 0
      · have t1 : (fv (el p x) == 0) = true := by rw [hx0]; rfl
        have hz2 : ZeroFrom p xs (k - 1) := ZeroFrom.next (by rw [show k - 1 + 1 = k from by omega]; exact HZ.out) (by rw [HC.out]; exact hx0)
        have HZ2 := Lib.hid hz2
        clear hz2 hx0
        go_wp2_with (go_at_call 25; refine (of_el p hp2 b x hI _ hc).mono ?_; rintro e w' ⟨rfl, rfl⟩)
        go_round
        case rel => exact ⟨k - 1, by rw [← HL.out]; omega, by congr 1; omega, HZ2.out⟩
        case measure => simp [intOf]; omega
      · have t1 : (fv (el p x) == 0) = false := by rw [beq_eq_false_iff_ne]; exact fun h => hx0 (fv_eq_zero.1 h)
        have hd := HZ.out.done (.inr (by rw [HC.out]; exact hx0))
        have HD := Lib.hid hd
        clear hd hx0
        go_wp2_with (go_at_call 25; refine (of_el p hp2 b x hI _ hc).mono ?_; rintro e w' ⟨rfl, rfl⟩)
        go_ret
        exact ⟨ret_int HD.out.symm, rfl⟩
end Go.Proofs.YtpkhcncempoohaaGreatDoor

namespace Go.Proofs.YtpkhcncempoohaaGreatDoor
open Go.RowKit Zp
def TrimRel (p : Nat) [NeZero p] (xs : List Int) (n : Nat) (w : World) (v i : Value) (wr : World) : Prop := ∃ k g : Nat, k ≤ n ∧ i = vi k ∧ v = .slice (some ⟨g, 0, none⟩) k n ∧ Own wr w.heap.size v ((fvs (trimL (els p xs))).take k) ∧ Below w.heap.size w wr
set_option maxRecDepth 100000 in
set_option maxHeartbeats 1000000 in
theorem trim_any (p : Nat) [NeZero p] (hp2 : p ≤ 2147483647) (b : Nat) (A : Option Addr) (cap : Nat) (xs : List Int) (hxs : ∀ n ∈ xs, I64 n) (hreach : xs.length * 8 ≤ 281474976710656) (hcap : xs.length ≤ cap) (w : World) (hc : w.cell? ⟨b, 0, none⟩ = some (vi p)) (hs : SL w A xs) :
    Calls Tryz.prog 70 #[.pointer (some ⟨b, 0, none⟩), .slice A xs.length cap] w fun e w' => Made (fvs (trimL (els p xs))) w e w' := by
  have hbl : b < w.heap.size := block_lt_of_cell hc
  have hdeg := degree_any p hp2 b A cap xs hxs hreach w hc hs
  obtain ⟨n, hn⟩ : ∃ n, n = (trimL (els p xs)).length := ⟨_, rfl⟩
  have hnl : n ≤ xs.length := by rw [hn]; have := trimL_length_le (els p xs); simpa using this
  have hd : degL (els p xs) = (n : Int) - 1 := by unfold degL; rw [hn]
  rw [hd] at hdeg
  have HDEG := Lib.hid hdeg
  have hmk := make_ints0 n (by omega)
  have HN := Lib.hid hn
  clear hn hd hdeg
  obtain ⟨len, hlen⟩ : ∃ len, len = xs.length := ⟨_, rfl⟩
  rw [← hlen] at hreach hnl HDEG hcap
  rw [← hlen]
  have HL := Lib.hid hlen
  clear hlen
  go_enter Tryz.func70, Tryz.ntmps70
  go_wp2_with fail
  refine (HDEG.out).mono ?_
  rintro e w' ⟨rfl, rfl⟩
  go_wp2
  go_loopw [6, 8, 19] (fun v _ i wr => TrimRel p xs n w v i wr) (fun _ _ i _ => n - (intOf i).toNat)
  case atStart => exact ⟨0, w.heap.size, Nat.zero_le _, rfl, rfl, own_made0 w _ n (Nat.le_refl _) (by omega), (Below.refl _ _).alloc (Nat.le_refl _) _⟩
  case round =>
    obtain ⟨k, g, hk, rfl, rfl, hown, hb⟩ := hrel
    by_cases hlt : k < n
    · have hkx : k < xs.length := by rw [← HL.out]; omega
      have hcr : wr.cell? ⟨b, 0, none⟩ = some (vi p) := (hb.cell (p := ⟨b, 0, none⟩) hbl).trans hc
      obtain ⟨ad, rfl, hab, hcell⟩ := (hs.below hb).at_ hkx
      have hI := hxs _ (List.getElem_mem hkx)
      obtain ⟨x, hx⟩ : ∃ x, x = xs[k] := ⟨_, rfl⟩
      rw [← hx] at hI hcell
      have htl : k < (trimL (els p xs)).length := by rw [← HN.out]; exact hlt
      have h2 := map_take_succ fv (trimL (els p xs)) k htl
      have h3 : (trimL (els p xs))[k] = el p x := by
        rw [← co_of_lt htl, co_trim, co_of_lt (by simpa using hkx), List.getElem_map, hx]
      rw [h3] at h2
      have H2 := Lib.hid h2
      have hll : ((fvs (trimL (els p xs))).take k).length = k := by rw [List.length_take, List.length_map]; omega
      have HLL := Lib.hid hll
      clear hx h2 h3 hll
      go_wp2_with (first | (go_at_call 25; refine (of_el p hp2 b x hI _ hcr).mono ?_; rintro e w' ⟨rfl, rfl⟩) | (at_builtin; refine wpList_app1_fits w' (fv (el p x)) rfl _ _ rfl w.heap.size g k n _ rfl rfl hown HLL.out.symm hlt ?_; intro w1 hown1 hg))
      go_roundw
      case rel => exact ⟨k + 1, g, by omega, by go_num, rfl, by rw [← H2.out]; exact hown1, hb.grown hg hb.size (fun j hj => by injection hj with hj; subst hj; exact (hown.lt g rfl).1)⟩
      case measure => simp [intOf]; omega
    · obtain rfl : k = n := by omega
      go_wp2
      go_ret
      rw [List.take_of_length_le (by simp; rw [HN.out]; exact Nat.le_refl _)] at hown
      exact ⟨_, rfl, hown, hb⟩
end Go.Proofs.YtpkhcncempoohaaGreatDoor
