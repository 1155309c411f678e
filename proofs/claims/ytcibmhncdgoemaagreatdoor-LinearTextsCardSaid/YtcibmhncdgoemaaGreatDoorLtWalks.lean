/- The walks of both Texts and of the law LinearTexts, under the contract of known; the argument opened. -/
import Derived.Test.YtcibmhncdgoemaaGreatDoorLtLays
import Derived.Lib.Walk
import Derived.Lib.ItoaMem
import Derived.Lib.ItoaLen
import Derived.WalkKit
import Derived.BigCall
import Derived.BigGuard
import Derived.Lib.Hide
import Derived.Lib.AppendIntMem
import Derived.Laws.IdiomStrings
import Derived.Deep.RegionWith
import Derived.Lib.QuietBelow
import Derived.BigQuiet
import Derived.Lib.ConvBytes
import Derived.Lib.AtoiErrMem
import Derived.ProofKit
import Derived.OpenShut
import Derived.ChangeArms
import Derived.WideShapes
set_option linter.unusedVariables false
set_option linter.unusedSimpArgs false
set_option linter.unusedSectionVars false
namespace Go.Proofs.YtcibmhncdgoemaaGreatDoor
open Go Go.Shelf Go.RowKit Go.Sort Go.Lib

/-- the table of powers of ten lies as it is laid -/
def Pow (w : World) : Prop := Lib.TabIs Tryz.prog w "internal/strconv.uint64pow10" .u64 Lib.pow10Tab

theorem below_grow (w : World) (k : Nat) (os : Array Obj) : Below w.heap.size w (grow (w.drewN k) os) :=
  ⟨rfl, rfl, rfl, by simp [grow, World.drewN], fun i hi => by simp [grow, World.drewN, Array.getElem?_append, hi]⟩
theorem Pow.below {w w' : World} (h : Pow w) (hb : Below w.heap.size w w') : Pow w' := by
  unfold Pow TabIs World.var? at *
  cases hg : Tryz.prog.globalNamed "internal/strconv.uint64pow10" with
  | none => simp [hg] at h
  | some g =>
    simp only [hg, Option.bind_some] at h ⊢
    have hlt : g < w.heap.size := by
      rcases Nat.lt_or_ge g w.heap.size with h' | h'
      · exact h'
      · rw [Array.getElem?_eq_none h'] at h; simp at h
    rw [hb.block g hlt]
    exact h

theorem itoa_any (n : Int) (h0 : -9223372036854775808 ≤ n) (h1 : n ≤ 9223372036854775807) (w : World) (hp : Pow w) :
    Calls Tryz.prog 25 #[.int .i64 n] w fun e w' => e = .returned (.string ⟨(Lib.itoa n).toArray⟩) ∧ Below w.heap.size w w' :=
  (Any.strconv_Itoa Tryz.laysM171 n h0 h1 w hp).mono fun _ _ ⟨he, k, os, hw⟩ => ⟨he, hw ▸ below_grow w k os⟩

set_option maxHeartbeats 800000 in
theorem fmtU_small (u : Nat) (hu : u < 100) (w : World) :
    Calls Tryz.prog 48 #[.int .u64 u, .int .i64 10] w fun e w' => e = .returned (.string ⟨(Lib.decDigits u).toArray⟩) ∧ w' = w := by
  go_enter Tryz.func48, Tryz.ntmps48
  go_wp2_with (go_at_call 69; refine (Any.internal_strconv_small Tryz.lays283 u hu _).mono ?_; rintro e w' ⟨rfl, rfl⟩)
  go_ret
  exact ⟨rfl, rfl⟩
end Go.Proofs.YtcibmhncdgoemaaGreatDoor
namespace Go.Proofs.YtcibmhncdgoemaaGreatDoor
open Go Go.Shelf Go.RowKit Go.Sort Go.Lib

/-- a byte as a cell holds it -/
abbrev cellOf (b : UInt8) : Value := Value.int .u8 (b.toNat : Int)
theorem arr24 : Tryz.prog.arrayLen 120 = 24 := by kernel_rfl

set_option maxHeartbeats 1600000 in
set_option maxRecDepth 100000 in
theorem fmtU_big (u : Nat) (hu : 100 ≤ u) (hu64 : u < 18446744073709551616) (w : World) (hp : Pow w) :
    Calls Tryz.prog 48 #[.int .u64 u, .int .i64 10] w fun e w' => e = .returned (.string ⟨(Lib.decDigits u).toArray⟩) ∧ Below w.heap.size w w' := by
  have hpos : 1 ≤ u := by omega
  have hd : Lib.nDigits u ≤ 20 := nDigits_le20 u hu64
  have hcut : ∀ W, (Instr.sliceAt 120 (.pointer (some ⟨w.heap.size, 0, none⟩)) none (some (.int .i64 (Lib.nDigits u : Int))) none).run Tryz.prog W = .ok (.slice (some ⟨w.heap.size, 0, none⟩) (Lib.nDigits u) 24) W := fun W => by
    rw [run_sliceAt_array_h W 120 ⟨w.heap.size, 0, none⟩ (by simp [Program.arrayLen, Program.elem, Tryz.underlying120]) .i64 (Lib.nDigits u : Int) (by omega) (by rw [arr24]; omega), arr24]
    go_simp
  have hrow := Lib.holds_zero0 w 120 (Lib.nDigits u) (by omega)
  have hfmt := Any.internal_strconv_formatBase10 Tryz.lays285 w.heap.size 0 24 u (Array.replicate (Lib.nDigits u) 0) (w.alloc (.cells Lib.zeros24 120)) hrow (by rw [Array.size_replicate]; exact Lib.lt_pow_nDigits u) hu64 (by rw [Array.size_replicate]; omega)
  rw [Array.size_replicate] at hfmt
  have HR := Lib.hid hrow
  have iu : (100 : Int) ≤ (u : Int) := by omega
  clear hrow
  go_enter Tryz.func48, Tryz.ntmps48
  go_wp2_with (go_at_call 70; refine (Any.internal_strconv_numDigits Tryz.laysM284 u hpos hu64 _ (Lib.tabIs_alloc hp _)).mono ?_; rintro e w' ⟨rfl, rfl⟩)
  go_at_call 71
  refine hfmt.mono ?_
  rintro e w' ⟨rfl, k, v', dk, rfl, hF⟩
  have hconv : ∀ W, W = (putRow cellOf (w.alloc (.cells Lib.zeros24 120)) w.heap.size 0 dk).drewN k → (convert 49 9 (.slice (some ⟨w.heap.size, 0, none⟩) (Lib.nDigits u) 24)).run Tryz.prog W = .ok (.string ⟨(Lib.decDigits u).toArray⟩) W := by
    rintro W rfl
    have h := run_convert_bytes_back (P := Tryz.prog) ((putRow cellOf (w.alloc (.cells Lib.zeros24 120)) w.heap.size 0 dk).drewN k) 49 9 5 ⟨w.heap.size, 0, none⟩ 24 (Lib.decDigits u) Tryz.underlying49 Tryz.underlying5 Tryz.underlying9 (fun j hj => by
      rw [Lib.row_is_numeral hF j hj, Lib.add_plain, World.cell?_drewN]
      exact cell?_putRow cellOf _ w.heap.size 0 _ dk HR.out (by rw [hF.size, Array.size_replicate]) j (by rw [hF.size]; rw [Lib.decDigits_length] at hj; exact hj))
    rw [Lib.decDigits_length] at h
    exact h
  obtain ⟨os, eo⟩ := Lib.fin_at w (.cells Lib.zeros24 120) dk k 0
  have hbel : Below w.heap.size w ((putRow cellOf (w.alloc (.cells Lib.zeros24 120)) w.heap.size 0 dk).drewN k) := by rw [eo]; exact below_grow w k os
  have hc := hconv _ rfl
  clear hconv hfmt eo HR
  generalize (putRow cellOf (w.alloc (.cells Lib.zeros24 120)) w.heap.size 0 dk).drewN k = W2 at hc hbel ⊢
  go_wp2
  go_ret
  exact ⟨rfl, hbel⟩

theorem fmtU_any (u : Nat) (hu64 : u < 18446744073709551616) (w : World) (hp : Pow w) :
    Calls Tryz.prog 26 #[.int .u64 u, .int .i64 10] w fun e w' => e = .returned (.string ⟨(Lib.decDigits u).toArray⟩) ∧ Below w.heap.size w w' := by
  by_cases hu : u < 100
  · go_enter Tryz.func26, Tryz.ntmps26
    go_wp2_with (go_at_call 48; refine (fmtU_small u hu _).mono ?_; rintro e w' ⟨rfl, rfl⟩)
    go_ret
    exact ⟨rfl, Below.refl _ _⟩
  · go_enter Tryz.func26, Tryz.ntmps26
    go_wp2_with (go_at_call 48; refine (fmtU_big u (by omega) hu64 _ hp).mono ?_; rintro e w' ⟨rfl, hb⟩)
    go_ret
    exact ⟨rfl, hb⟩
end Go.Proofs.YtcibmhncdgoemaaGreatDoor
namespace Go.Proofs.YtcibmhncdgoemaaGreatDoor
open Go Go.Shelf Go.RowKit Go.Sort Go.Lib

/-- a number's digits, as a string -/
def decS (u : Nat) : ByteArray := ⟨(Lib.decDigits u).toArray⟩
/-- a number with its sign, as a string -/
def itoaS (n : Int) : ByteArray := ⟨(Lib.itoa n).toArray⟩
theorem size_mk (l : List UInt8) : (⟨l.toArray⟩ : ByteArray).size = l.length := by simp [ByteArray.size]
theorem decS_size (u : Nat) (h : u < 18446744073709551616) : (decS u).size ≤ 20 := by
  unfold decS; rw [size_mk, Lib.decDigits_length]; exact nDigits_le20 u h
theorem itoaS_size (n : Int) (h0 : -9223372036854775808 ≤ n) (h1 : n ≤ 9223372036854775807) : (itoaS n).size ≤ 21 := by
  unfold itoaS; rw [size_mk]; exact itoa_length_le n h0 h1
/-- one digit, as a string -/
def dgt (x : Nat) : ByteArray := ⟨[UInt8.ofNat (48 + x)].toArray⟩
theorem dgt_size (x : Nat) : (dgt x).size = 1 := rfl
theorem decS_one {u : Nat} (h : u < 10) : decS u = dgt u := by unfold decS dgt; rw [Lib.decDigits_one h]
theorem decS_more {u : Nat} (h : ¬ u < 10) : decS (u / 10) ++ dgt (u % 10) = decS u := by
  unfold decS dgt
  rw [ByteArray.mk_append_mk, Lib.decDigits.eq_1 u, dif_neg h]
theorem itoaS_pos {n : Int} (h : ¬ n < 0) : itoaS n = decS n.toNat := by unfold itoaS decS Lib.itoa; rw [if_neg h]
theorem itoaS_neg {n : Int} (h : n < 0) : ⟨#[45]⟩ ++ decS n.natAbs = itoaS n := by unfold itoaS decS Lib.itoa; rw [if_pos h, ByteArray.mk_append_mk]; simp

theorem conv_one (W : World) (b : Nat) (x : Nat) (hx : x < 10) (hW : W.cell? ⟨b, 0, none⟩ = some (.int .u8 (48 + (x : Int)))) :
    (convert 49 9 (.slice (some ⟨b, 0, none⟩) 1 1)).run Tryz.prog W = .ok (.string (dgt x)) W :=
  run_convert_bytes_back (P := Tryz.prog) W 49 9 5 ⟨b, 0, none⟩ 1 [UInt8.ofNat (48 + x)] Tryz.underlying49 Tryz.underlying5 Tryz.underlying9 (fun j hj => by
    have hj : j = 0 := by simpa using hj
    subst hj
    have e : (UInt8.ofNat (48 + x)).toNat = 48 + x := by simp [UInt8.toNat_ofNat']; omega
    rw [Lib.add_plain]
    simp only [List.getElem_cons_zero, e]
    rw [hW]
    simp)

theorem below_undrew {w w1 : World} (hb : Below w.drew.heap.size w.drew w1) : Below w.heap.size w w1 :=
  ⟨hb.os, hb.tape, hb.output, hb.size, hb.block⟩
theorem below_unalloc {w w1 : World} {o : Obj} (hb : Below (w.alloc o).heap.size (w.alloc o) w1) : Below w.heap.size w w1 :=
  ((Below.refl _ _).alloc (Nat.le_refl _) o).trans (hb.mono (by show w.heap.size ≤ (w.heap.push o).size; simp))

theorem conv_after {w w1 : World} {u : Nat} (hb : Below (w.alloc (Obj.cells #[Value.int IntKind.u8 (48 + (u : Int) % 10)] 5)).drew.heap.size (w.alloc (Obj.cells #[Value.int IntKind.u8 (48 + (u : Int) % 10)] 5)).drew w1) :
    (convert 49 9 (.slice (some ⟨w.heap.size, 0, none⟩) 1 1)).run Tryz.prog w1 = .ok (.string (dgt (u % 10))) w1 :=
  conv_one w1 w.heap.size (u % 10) (by omega) (by
    rw [hb.cell (p := ⟨w.heap.size, 0, none⟩) (by show w.heap.size < (w.heap.push _).size; simp)]
    show (w.alloc _).cell? _ = _
    rw [World.cell?_alloc_new]
    simp)

set_option maxHeartbeats 1600000 in
set_option maxRecDepth 100000 in
theorem big_one (u : Nat) (hu : u < 10) (w : World) :
    Calls Tryz.prog 28 #[.int .u64 u] w fun e w' => e = .returned (.string (decS u)) ∧ Below w.heap.size w w' := by
  have hc := conv_one (w.alloc (Obj.cells #[Value.int IntKind.u8 (48 + (u : Int))] 5)) w.heap.size u hu (by rw [World.cell?_alloc_new]; rfl)
  go_enter Tryz.func28, Tryz.ntmps28
  go_wp2
  go_ret
  refine ⟨?_, (Below.refl _ _).alloc (Nat.le_refl _) _⟩
  rw [decS_one hu]
  rfl

set_option maxHeartbeats 1600000 in
set_option maxRecDepth 100000 in
theorem big_more (u : Nat) (hu : 10 ≤ u) (hu64 : u < 18446744073709551616) (w : World)
    (ih : ∀ W, Calls Tryz.prog 28 #[.int .u64 ((u : Int) / 10)] W fun e w' => e = .returned (.string (decS (u / 10))) ∧ Below W.heap.size W w') :
    Calls Tryz.prog 28 #[.int .u64 u] w fun e w' => e = .returned (.string (decS u)) ∧ Below w.heap.size w w' := by
  have iu : (10 : Int) ≤ (u : Int) := by omega
  have d1 : IntKind.u64.wrap ((u : Int) / 10) = (u : Int) / 10 := by rw [IntKind.wrap_u64]; omega
  have d2 : (u : Int).tmod 10 = (u : Int) % 10 := by rw [Int.tmod_eq_emod_of_nonneg (by omega)]
  have d3 : IntKind.u64.wrap (48 + (u : Int) % 10) = 48 + (u : Int) % 10 := by rw [IntKind.wrap_u64]; omega
  have d4 : IntKind.u8.wrap (48 + (u : Int) % 10) = 48 + (u : Int) % 10 := by rw [IntKind.wrap_u8]; omega
  have hcv : ∀ W : World, (convert 49 9 (.slice (some ⟨W.heap.size, 0, none⟩) 1 1)).run Tryz.prog (W.alloc (Obj.cells #[Value.int IntKind.u8 (48 + (u : Int) % 10)] 5)) = .ok (.string (dgt (u % 10))) (W.alloc (Obj.cells #[Value.int IntKind.u8 (48 + (u : Int) % 10)] 5)) :=
    fun W => conv_one _ W.heap.size (u % 10) (by omega) (by rw [World.cell?_alloc_new]; simp)
  have hc0 := conv_after (Below.refl _ (w.alloc (Obj.cells #[Value.int IntKind.u8 (48 + (u : Int) % 10)] 5)).drew)
  have n1 : ¬ 9223372036854775807 < (decS (u / 10)).size + (dgt (u % 10)).size := by
    have := decS_size (u / 10) (by omega); rw [dgt_size]; omega
  go_enter Tryz.func28, Tryz.ntmps28
  go_wp2_with (fail)
  go_region_with (go_at_call 28; refine (ih _).mono ?_; rintro e w1 ⟨rfl, hb⟩; first | (with_reducible have hq := conv_after hb) | skip)
  all_goals go_wp2
  all_goals go_ret
  · exact ⟨by rw [← decS_more (u := u) (by omega)]; rfl, (below_undrew hb).alloc (below_undrew hb).size _⟩
  · exact ⟨by rw [← decS_more (u := u) (by omega)]; rfl, below_unalloc (below_undrew hb)⟩
  · exact ⟨by rw [← decS_more (u := u) (by omega)]; rfl, below_unalloc (below_undrew hb)⟩

theorem big_any : ∀ (k u : Nat), u < 10 ^ k → u < 18446744073709551616 → ∀ w : World,
    Calls Tryz.prog 28 #[.int .u64 u] w fun e w' => e = .returned (.string (decS u)) ∧ Below w.heap.size w w' := by
  intro k
  induction k with
  | zero => intro u h _ w; exact big_one u (by omega) w
  | succ k ih =>
    intro u h hu64 w
    by_cases hu : u < 10
    · exact big_one u hu w
    · exact big_more u (by omega) hu64 w fun W => by
        have := ih (u / 10) (by omega) (by omega) W
        simpa using this
end Go.Proofs.YtcibmhncdgoemaaGreatDoor
namespace Go.Proofs.YtcibmhncdgoemaaGreatDoor
open Go Go.Shelf Go.RowKit Go.Sort Go.Lib

theorem bigS (u : Nat) (hu64 : u < 18446744073709551616) (w : World) :
    Calls Tryz.prog 28 #[.int .u64 u] w fun e w' => e = .returned (.string (decS u)) ∧ Below w.heap.size w w' := big_any 20 u (by omega) hu64 w

set_option maxHeartbeats 1600000 in
set_option maxRecDepth 100000 in
theorem num_pos (n : Int) (h0 : 0 ≤ n) (h1 : n ≤ 9223372036854775807) (w : World) :
    Calls Tryz.prog 27 #[.int .i64 n] w fun e w' => e = .returned (.string (itoaS n)) ∧ Below w.heap.size w w' := by
  obtain ⟨u, rfl⟩ : ∃ u : Nat, n = u := ⟨n.toNat, by omega⟩
  have d1 : IntKind.u64.wrap (u : Int) = (u : Int) := by rw [IntKind.wrap_u64]; omega
  go_enter Tryz.func27, Tryz.ntmps27
  go_wp2_with (go_at_call 28; refine (bigS u (by omega) _).mono ?_; rintro e w' ⟨rfl, hb⟩)
  go_ret
  refine ⟨?_, hb⟩
  rw [itoaS_pos (by omega)]
  rfl

set_option maxHeartbeats 1600000 in
set_option maxRecDepth 100000 in
theorem num_neg (n : Int) (h0 : -9223372036854775808 ≤ n) (h1 : n < 0) (w : World) :
    Calls Tryz.prog 27 #[.int .i64 n] w fun e w' => e = .returned (.string (itoaS n)) ∧ Below w.heap.size w w' := by
  obtain ⟨u, rfl⟩ : ∃ u : Nat, n = -((u : Int) + 1) := ⟨(-n - 1).toNat, by omega⟩
  have d0 : (-((u : Int) + 1) + 1) = -(u : Int) := by omega
  have n1 : ¬ 9223372036854775807 < 1 + (decS (u + 1)).size := by
    have := decS_size (u + 1) (by omega); omega
  have hb0 : ∀ W : World, Calls Tryz.prog 28 #[.int .u64 ((u : Int) + 1)] W fun e w' => e = .returned (.string (decS (u + 1))) ∧ Below W.heap.size W w' := fun W => by
    have h := bigS (u + 1) (by omega) W
    rw [show (((u + 1 : Nat) : Int)) = (u : Int) + 1 by omega] at h
    exact h
  go_enter Tryz.func27, Tryz.ntmps27
  go_wp2_with (go_at_call 28; refine (hb0 _).mono ?_; rintro e w' ⟨rfl, hb⟩)
  go_ret
  refine ⟨?_, hb⟩
  rw [← itoaS_neg (by omega), show (-((u : Int) + 1)).natAbs = u + 1 by omega]
  rfl

theorem num_any (n : Int) (h0 : -9223372036854775808 ≤ n) (h1 : n ≤ 9223372036854775807) (w : World) :
    Calls Tryz.prog 27 #[.int .i64 n] w fun e w' => e = .returned (.string (itoaS n)) ∧ Below w.heap.size w w' := by
  by_cases h : 0 ≤ n
  · exact num_pos n h h1 w
  · exact num_neg n h0 (by omega) w

theorem itoaS_any (n : Int) (h0 : -9223372036854775808 ≤ n) (h1 : n ≤ 9223372036854775807) (w : World) (hp : Pow w) :
    Calls Tryz.prog 25 #[.int .i64 n] w fun e w' => e = .returned (.string (itoaS n)) ∧ Below w.heap.size w w' := itoa_any n h0 h1 w hp
theorem fmtS_any (u : Nat) (hu64 : u < 18446744073709551616) (w : World) (hp : Pow w) :
    Calls Tryz.prog 26 #[.int .u64 u, .int .i64 10] w fun e w' => e = .returned (.string (decS u)) ∧ Below w.heap.size w w' := fmtU_any u hu64 w hp
end Go.Proofs.YtcibmhncdgoemaaGreatDoor
namespace Go.Proofs.YtcibmhncdgoemaaGreatDoor
open Go Go.Shelf Go.RowKit Go.Sort Go.Lib

/-- a record of what became of a request, as its cells -/
def doneC (q t b e m c v : Int) (s : ByteArray) : Array Value := #[.int .i64 q, .int .i64 t, .int .i64 b, .int .i64 e, .int .u64 m, .int .i64 c, .int .i64 v, .string s]
/-- the cells lie at a block's head -/
structure At (W : World) (B : Nat) (q t b e m c v : Int) (s : ByteArray) : Prop where
  c0 : W.cell? ⟨B, 0, none⟩ = some (.int .i64 q)
  c1 : W.cell? ⟨B, 1, none⟩ = some (.int .i64 t)
  c2 : W.cell? ⟨B, 2, none⟩ = some (.int .i64 b)
  c3 : W.cell? ⟨B, 3, none⟩ = some (.int .i64 e)
  c4 : W.cell? ⟨B, 4, none⟩ = some (.int .u64 m)
  c5 : W.cell? ⟨B, 5, none⟩ = some (.int .i64 c)
  c6 : W.cell? ⟨B, 6, none⟩ = some (.int .i64 v)
  c7 : W.cell? ⟨B, 7, none⟩ = some (.string s)
theorem at_new (w : World) (T : TypeId) (q t b e m c v : Int) (s : ByteArray) : At (w.alloc (.cells (doneC q t b e m c v s) T)) w.heap.size q t b e m c v s := by
  constructor <;> (rw [World.cell?_alloc_new]; rfl)
theorem At.below {W W' : World} {B : Nat} {q t b e m c v : Int} {s : ByteArray} (h : At W B q t b e m c v s) (hb : Below W.heap.size W W') : At W' B q t b e m c v s := by
  have hB : B < W.heap.size := block_lt_of_cell h.c0
  constructor
  · rw [hb.cell (p := ⟨B, 0, none⟩) hB]; exact h.c0
  · rw [hb.cell (p := ⟨B, 1, none⟩) hB]; exact h.c1
  · rw [hb.cell (p := ⟨B, 2, none⟩) hB]; exact h.c2
  · rw [hb.cell (p := ⟨B, 3, none⟩) hB]; exact h.c3
  · rw [hb.cell (p := ⟨B, 4, none⟩) hB]; exact h.c4
  · rw [hb.cell (p := ⟨B, 5, none⟩) hB]; exact h.c5
  · rw [hb.cell (p := ⟨B, 6, none⟩) hB]; exact h.c6
  · rw [hb.cell (p := ⟨B, 7, none⟩) hB]; exact h.c7

/-- a callee's contract, met in a world of the class -/
theorem regrown_call {f : FuncId} {args : Array Value} {v : Value} {W : World} (h : ∀ W', Below W.heap.size W W' → Calls Tryz.prog f args W' fun e w' => e = .returned v ∧ Below W'.heap.size W' w') (d : Nat) (os : Array Obj) :
    Calls Tryz.prog f args (grow (redrawn W d) os) fun e w'' => e = .returned v ∧ ∃ p : Regrown, w'' = grow (redrawn W p.d) p.os :=
  Calls.regrown_of (h _ (below_regrown W d os))

set_option maxHeartbeats 3200000 in
set_option maxRecDepth 1000000 in
theorem text_neg (q t b e m c v : Int) (s : ByteArray) (hq0 : -9223372036854775808 ≤ q) (hq1 : q ≤ 9223372036854775807) (ht0 : -9223372036854775808 ≤ t) (ht1 : t ≤ 9223372036854775807)
    (hb0 : -9223372036854775808 ≤ b) (hb1 : b ≤ 9223372036854775807) (he : e < 0) (w : World) (hp : Pow w) :
    Calls Tryz.prog 15 #[.agg (doneC q t b e m c v s)] w fun r w' => r = .returned (.string (itoaS q ++ ⟨#[32]⟩ ++ itoaS t ++ ⟨#[32]⟩ ++ itoaS b ++ ⟨#[45]⟩)) ∧ Below w.heap.size w w' := by
  have hA := at_new w 31 q t b e m c v s
  have hw : Below w.heap.size w (w.alloc (.cells (doneC q t b e m c v s) 31)) := (Below.refl _ _).alloc (Nat.le_refl _) _
  have hp1 := hp.below hw
  have sq := itoaS_size q hq0 hq1
  have st := itoaS_size t ht0 ht1
  have sb := itoaS_size b hb0 hb1
  have n1 : ¬ 9223372036854775807 < (itoaS q).size + 1 := by omega
  have n2 : ¬ 9223372036854775807 < (itoaS q).size + 1 + (itoaS t).size := by omega
  have n3 : ¬ 9223372036854775807 < (itoaS q).size + 1 + (itoaS t).size + 1 := by omega
  have n4 : ¬ 9223372036854775807 < (itoaS q).size + 1 + (itoaS t).size + 1 + (itoaS b).size := by omega
  have n5 : ¬ 9223372036854775807 < (itoaS q).size + 1 + (itoaS t).size + 1 + (itoaS b).size + 1 := by omega
  clear sq st sb
  go_enter Tryz.func15, Tryz.ntmps15
  go_wp2_with (fail)
  generalize w.alloc (.cells (doneC q t b e m c v s) 31) = W at hA hw hp1 ⊢
  have k0 := cell_regrown hA.c0
  have k1 := cell_regrown hA.c1
  have k2 := cell_regrown hA.c2
  have cq := fun d os => regrown_call (W := W) (fun W' hb => itoaS_any q hq0 hq1 W' (hp1.below hb)) d os
  have ct := fun d os => regrown_call (W := W) (fun W' hb => itoaS_any t ht0 ht1 W' (hp1.below hb)) d os
  have cb := fun d os => regrown_call (W := W) (fun W' hb => itoaS_any b hb0 hb1 W' (hp1.below hb)) d os
  refine wp_region_quiet_below (by kernel_rfl) (by kernel_rfl) ?_
  repeat (quiet_step (first | exact cq _ _ | exact ct _ _ | exact cb _ _))
  refine wpQuiet_nil ?_
  intro _ hw'
  obtain ⟨pq, hw''⟩ := hw'
  subst hw''
  have hb2 := below_regrown W pq.d pq.os
  have hA2 := hA.below hb2
  generalize grow (redrawn W pq.d) pq.os = W2 at hA2 hb2 ⊢
  clear k0 k1 k2 cq ct cb n1 n2 n3 n4 n5 hA hp1
  have c3 := hA2.c3
  go_wp2
  go_ret
  exact ⟨rfl, hw.trans (hb2.mono hw.size)⟩
end Go.Proofs.YtcibmhncdgoemaaGreatDoor
namespace Go.Proofs.YtcibmhncdgoemaaGreatDoor
open Go Go.Shelf Go.RowKit Go.Sort Go.Lib

/-- the first part of a text -/
def headS (q t b : Int) : ByteArray := itoaS q ++ ⟨#[32]⟩ ++ itoaS t ++ ⟨#[32]⟩ ++ itoaS b ++ ⟨#[45]⟩
/-- the second -/
def midS (e m c v : Int) : ByteArray := itoaS e ++ ⟨#[32]⟩ ++ decS m.toNat ++ ⟨#[32]⟩ ++ itoaS c ++ ⟨#[32]⟩ ++ itoaS v ++ ⟨#[32]⟩
/-- the bounds of a record's numbers -/
structure Fits (q t b e m c v : Int) : Prop where
  q0 : -9223372036854775808 ≤ q
  q1 : q ≤ 9223372036854775807
  t0 : -9223372036854775808 ≤ t
  t1 : t ≤ 9223372036854775807
  b0 : -9223372036854775808 ≤ b
  b1 : b ≤ 9223372036854775807
  e0 : -9223372036854775808 ≤ e
  e1 : e ≤ 9223372036854775807
  m0 : 0 ≤ m
  m1 : m < 18446744073709551616
  c0 : -9223372036854775808 ≤ c
  c1 : c ≤ 9223372036854775807
  v0 : -9223372036854775808 ≤ v
  v1 : v ≤ 9223372036854775807
theorem headS_size {q t b e m c v : Int} (F : Fits q t b e m c v) : (headS q t b).size ≤ 66 := by
  have := itoaS_size q F.q0 F.q1
  have := itoaS_size t F.t0 F.t1
  have := itoaS_size b F.b0 F.b1
  unfold headS
  simp only [ByteArray.size_append]
  have e1 : (⟨#[32]⟩ : ByteArray).size = 1 := rfl
  have e2 : (⟨#[45]⟩ : ByteArray).size = 1 := rfl
  omega
theorem midS_size {q t b e m c v : Int} (F : Fits q t b e m c v) : (midS e m c v).size ≤ 87 := by
  have := itoaS_size e F.e0 F.e1
  have := itoaS_size c F.c0 F.c1
  have := itoaS_size v F.v0 F.v1
  have := F.m0
  have := decS_size m.toNat (by have := F.m1; omega)
  unfold midS
  simp only [ByteArray.size_append]
  have e1 : (⟨#[32]⟩ : ByteArray).size = 1 := rfl
  omega

/-- the sixteen digits -/
def hexD (x : Nat) : UInt8 := if x < 10 then UInt8.ofNat (48 + x) else UInt8.ofNat (87 + x)
/-- bytes, each by two digits -/
def hexS (l : List UInt8) : ByteArray := ⟨(l.flatMap fun b => [hexD (b.toNat / 16), hexD (b.toNat % 16)]).toArray⟩

/-- one digit, as a string -/
def hexB (x : Nat) : ByteArray := ⟨[hexD x].toArray⟩
theorem hexB_size (x : Nat) : (hexB x).size = 1 := rfl
theorem cut_fin : ∀ x : Fin 16, (⟨#[48, 49, 50, 51, 52, 53, 54, 55, 56, 57, 97, 98, 99, 100, 101, 102]⟩ : ByteArray).extract x.val (x.val + 1) = hexB x.val := by decide +kernel
theorem and_fin : ∀ x : Fin 256, bits BinOp.and IntKind.u8 (x.val : Int) 15 = (x.val : Int) % 16 := by decide +kernel
theorem cut_digs (k k' : IntKind) (i : Int) (hi : 0 ≤ i) (h16 : i < 16) (W : World) :
    (Instr.slice 9 (.string ⟨#[48, 49, 50, 51, 52, 53, 54, 55, 56, 57, 97, 98, 99, 100, 101, 102]⟩) (some (.int k i)) (some (.int k' (i + 1))) none).run Tryz.prog W = .ok (.string (hexB i.toNat)) W := by
  rw [run_slice_string W 9 _ k k' i (i + 1) Tryz.underlying9 (by omega) (by omega) (by show i + 1 ≤ 16; omega)]
  have h := cut_fin ⟨i.toNat, by omega⟩
  rw [show (i + 1).toNat = i.toNat + 1 by omega]
  rw [h]
theorem hexS_size (l : List UInt8) : (hexS l).size = 2 * l.length := by
  unfold hexS
  rw [size_mk]
  induction l with
  | nil => rfl
  | cons a l ih => simp only [List.flatMap_cons, List.length_append, ih, List.length_cons, List.length_nil]; omega
theorem hexS_snoc (l : List UInt8) (x : UInt8) : hexS (l ++ [x]) = hexS l ++ (hexB (x.toNat / 16) ++ hexB (x.toNat % 16)) := by
  unfold hexS hexB
  rw [ByteArray.mk_append_mk, ByteArray.mk_append_mk, List.flatMap_append]
  simp
theorem take_snoc (s : ByteArray) (k : Nat) (h : k < s.size) : s.data.toList.take (k + 1) = s.data.toList.take k ++ [s.data.toList.getD k 0] := by
  have hl : k < s.data.toList.length := by have := (Lib.size_eq s); omega
  rw [List.take_succ_eq_append_getElem hl, List.getD, List.getElem?_eq_getElem hl]
  rfl
theorem bytes_nil (S : ByteArray) : S ++ hexS [] = S := by
  apply ByteArray.ext
  simp [hexS, ByteArray.data_append]
/-- what became of a request that was answered -/
def textS (q t b e m c v : Int) (s : ByteArray) : ByteArray := headS q t b ++ midS e m c v ++ hexS s.data.toList

set_option maxHeartbeats 6400000 in
set_option maxRecDepth 1000000 in
theorem text_pos (q t b e m c v : Int) (s : ByteArray) (F : Fits q t b e m c v) (he : 0 ≤ e) (hs : s.size ≤ 1000) (w : World) (hp : Pow w) :
    Calls Tryz.prog 15 #[.agg (doneC q t b e m c v s)] w fun r w' => r = .returned (.string (textS q t b e m c v s)) ∧ Below w.heap.size w w' := by
  have hA := at_new w 31 q t b e m c v s
  have hw : Below w.heap.size w (w.alloc (.cells (doneC q t b e m c v s) 31)) := (Below.refl _ _).alloc (Nat.le_refl _) _
  have hp1 := hp.below hw
  obtain ⟨u, rfl⟩ : ∃ u : Nat, m = u := ⟨m.toNat, by have := F.m0; omega⟩
  have HU : Hid (u < 18446744073709551616) := Lib.hid (by have := F.m1; omega)
  have hSz := headS_size F
  have sq := itoaS_size q F.q0 F.q1
  have st := itoaS_size t F.t0 F.t1
  have sb := itoaS_size b F.b0 F.b1
  have n1 : ¬ 9223372036854775807 < (itoaS q).size + 1 := by omega
  have n2 : ¬ 9223372036854775807 < (itoaS q).size + 1 + (itoaS t).size := by omega
  have n3 : ¬ 9223372036854775807 < (itoaS q).size + 1 + (itoaS t).size + 1 := by omega
  have n4 : ¬ 9223372036854775807 < (itoaS q).size + 1 + (itoaS t).size + 1 + (itoaS b).size := by omega
  have n5 : ¬ 9223372036854775807 < (itoaS q).size + 1 + (itoaS t).size + 1 + (itoaS b).size + 1 := by omega
  clear sq st sb
  go_enter Tryz.func15, Tryz.ntmps15
  go_wp2_with (fail)
  generalize w.alloc (.cells (doneC q t b e u c v s) 31) = W at hA hw hp1 ⊢
  have k0 := cell_regrown hA.c0
  have k1 := cell_regrown hA.c1
  have k2 := cell_regrown hA.c2
  have cq := fun d os => regrown_call (W := W) (fun W' hb => itoaS_any q F.q0 F.q1 W' (hp1.below hb)) d os
  have ct := fun d os => regrown_call (W := W) (fun W' hb => itoaS_any t F.t0 F.t1 W' (hp1.below hb)) d os
  have cb := fun d os => regrown_call (W := W) (fun W' hb => itoaS_any b F.b0 F.b1 W' (hp1.below hb)) d os
  refine wp_region_quiet_below (by kernel_rfl) (by kernel_rfl) ?_
  repeat (quiet_step (first | exact cq _ _ | exact ct _ _ | exact cb _ _))
  refine wpQuiet_nil ?_
  intro _ hw'
  obtain ⟨pq, hw''⟩ := hw'
  subst hw''
  have hb2 := below_regrown W pq.d pq.os
  have hA2 := hA.below hb2
  have hp2 := hp1.below hb2
  have hw2 := hw.trans (hb2.mono hw.size)
  generalize grow (redrawn W pq.d) pq.os = W2 at hA2 hw2 hp2 ⊢
  clear k0 k1 k2 cq ct cb n1 n2 n3 n4 n5 hA hp1 hb2 hw
  rw [show itoaS q ++ { data := #[32] } ++ itoaS t ++ { data := #[32] } ++ itoaS b ++ { data := #[45] } = headS q t b from rfl]
  have c3 := hA2.c3
  go_wp2_with (fail)
  clear c3
  have se := itoaS_size e F.e0 F.e1
  have sc := itoaS_size c F.c0 F.c1
  have sv := itoaS_size v F.v0 F.v1
  have sm := decS_size u HU.out
  have n1 : ¬ 9223372036854775807 < (itoaS e).size + 1 := by omega
  have n2 : ¬ 9223372036854775807 < (itoaS e).size + 1 + (decS u).size := by omega
  have n3 : ¬ 9223372036854775807 < (itoaS e).size + 1 + (decS u).size + 1 := by omega
  have n4 : ¬ 9223372036854775807 < (itoaS e).size + 1 + (decS u).size + 1 + (itoaS c).size := by omega
  have n5 : ¬ 9223372036854775807 < (itoaS e).size + 1 + (decS u).size + 1 + (itoaS c).size + 1 := by omega
  have n6 : ¬ 9223372036854775807 < (itoaS e).size + 1 + (decS u).size + 1 + (itoaS c).size + 1 + (itoaS v).size := by omega
  have n7 : ¬ 9223372036854775807 < (itoaS e).size + 1 + (decS u).size + 1 + (itoaS c).size + 1 + (itoaS v).size + 1 := by omega
  have n8 : ¬ 9223372036854775807 < (headS q t b).size + ((itoaS e).size + 1 + (decS u).size + 1 + (itoaS c).size + 1 + (itoaS v).size + 1) := by omega
  clear se sc sv sm
  have k3 := cell_regrown hA2.c3
  have k4 := cell_regrown hA2.c4
  have k5 := cell_regrown hA2.c5
  have k6 := cell_regrown hA2.c6
  have ce := fun d os => regrown_call (W := W2) (fun W' hb => itoaS_any e F.e0 F.e1 W' (hp2.below hb)) d os
  have cm := fun d os => regrown_call (W := W2) (fun W' hb => fmtS_any u HU.out W' (hp2.below hb)) d os
  have cc := fun d os => regrown_call (W := W2) (fun W' hb => itoaS_any c F.c0 F.c1 W' (hp2.below hb)) d os
  have cv := fun d os => regrown_call (W := W2) (fun W' hb => itoaS_any v F.v0 F.v1 W' (hp2.below hb)) d os
  refine wp_region_quiet_below (by kernel_rfl) (by kernel_rfl) ?_
  repeat (quiet_step (first | exact ce _ _ | exact cm _ _ | exact cc _ _ | exact cv _ _))
  refine wpQuiet_nil ?_
  intro _ hw'
  obtain ⟨pq, hw''⟩ := hw'
  subst hw''
  have hb3 := below_regrown W2 pq.d pq.os
  have hA3 := hA2.below hb3
  have hw3 := hw2.trans (hb3.mono hw2.size)
  generalize grow (redrawn W2 pq.d) pq.os = W3 at hA3 hw3 ⊢
  clear k3 k4 k5 k6 ce cm cc cv n1 n2 n3 n4 n5 n6 n7 n8 hA2 hp2 hb3 hw2
  rw [show headS q t b ++ (itoaS e ++ { data := #[32] } ++ decS u ++ { data := #[32] } ++ itoaS c ++ { data := #[32] } ++ itoaS v ++ { data := #[32] }) = headS q t b ++ midS e u c v from rfl]
  have hmid := midS_size F
  obtain ⟨S, hS⟩ : ∃ S, S = headS q t b ++ midS e u c v := ⟨_, rfl⟩
  rw [← hS]
  have hSs : S.size ≤ 153 := by rw [hS, ByteArray.size_append]; omega
  have HS := Lib.hid hS
  clear hS hSz hmid
  have c7 := hA3.c7
  have hcv := Lib.run_convert_string_bytes (P := Tryz.prog) W3 9 49 5 s (u := .string) Tryz.underlying9 Tryz.underlying49 Tryz.underlying5
  have hcell := Lib.bytesWorld_cell W3 5 s
  have hb4 := Lib.bytesWorld_below W3 5 s
  have hw4 := hw3.trans (hb4.mono hw3.size)
  generalize Lib.bytesWorld W3 5 s = W4 at hcv hcell hb4 hw4
  generalize grownCap W3 s.size 0 5 = cap at hcv
  generalize W3.heap.size = B3 at hcv hcell hb4
  have HC := Lib.hid hcell
  clear hcell hb4 hw3
  go_wp2_with (fail)
  go_loopw [3, 52] (fun r i wr => ∃ (k : Nat) (R : ByteArray), k ≤ s.size ∧ Hid (R = S ++ hexS (s.data.toList.take k)) ∧ i = .int .i64 k ∧ r = .string R ∧ ∃ n, wr = W4.drewN n) (fun _ i _ => s.size - (RowKit.intOf i).toNat)
  case atStart => exact ⟨0, S, Nat.zero_le _, Lib.hid (by rw [List.take_zero]; exact (bytes_nil S).symm), rfl, rfl, 0, by rw [World.drewN_zero]⟩
  case round =>
    obtain ⟨k, R, hk, HR, rfl, rfl, n, rfl⟩ := hrel
    by_cases hlt : k < s.size
    · have hc : W4.cell? ⟨B3, k, none⟩ = some (.int .u8 (s.data.toList.getD k 0).toNat) := HC.out k hlt
      obtain ⟨x, hx⟩ : ∃ x, x = s.data.toList.getD k 0 := ⟨_, rfl⟩
      rw [← hx] at hc
      have HX := Lib.hid hx
      clear hx
      obtain ⟨y, hy⟩ : ∃ y : Nat, y = x.toNat := ⟨_, rfl⟩
      rw [← hy] at hc
      have y1 : (y : Int) < 256 := by have := x.toNat_lt; omega
      have y0 : (0 : Int) ≤ (y : Int) := by omega
      have HY := Lib.hid hy
      clear hy
      have hRs : R.size ≤ 2153 := by
        rw [HR.out, ByteArray.size_append, hexS_size, List.length_take]; omega
      have g1 : ¬ 9223372036854775807 < (hexB ((y : Int) / 16).toNat).size + (hexB ((y : Int) % 16).toNat).size := by rw [hexB_size, hexB_size]; omega
      have g2 : ¬ 9223372036854775807 < R.size + ((hexB ((y : Int) / 16).toNat).size + (hexB ((y : Int) % 16).toNat).size) := by rw [hexB_size, hexB_size]; omega
      clear hRs
      have w1 : IntKind.u8.wrap ((y : Int) / 16 + 1) = (y : Int) / 16 + 1 := by rw [IntKind.wrap_u8]; omega
      have w3 : bits BinOp.and IntKind.u8 (y : Int) 15 = (y : Int) % 16 := and_fin ⟨y, by omega⟩
      have w2 : IntKind.u8.wrap ((y : Int) % 16 + 1) = (y : Int) % 16 + 1 := by rw [IntKind.wrap_u8]; omega
      have s1 := cut_digs .u8 .u8 ((y : Int) / 16) (by omega) (by omega)
      have s2 := cut_digs .u8 .u8 ((y : Int) % 16) (by omega) (by omega)
      go_wp2_with (fail)
      refine wp_region_quiet_lit (by kernel_rfl) (by kernel_rfl) ?_
      repeat (quiet_step (fail))
      refine wpQuiet_nil ?_
      intro _ hw'
      obtain ⟨nq, hw''⟩ := hw'
      subst hw''
      go_wp2_with (fail)
      go_roundw
      case rel =>
        refine ⟨k + 1, R ++ (hexB ((y : Int) / 16).toNat ++ hexB ((y : Int) % 16).toNat), by omega, Lib.hid ?_, by go_num, rfl, n + nq, rfl⟩
        have ex := HX.out
        have ey := HY.out
        rw [take_snoc s k hlt, hexS_snoc, ← ex, HR.out, ByteArray.append_assoc, ← ey]
        rfl
      case measure => simp [RowKit.intOf]; omega
    · go_wp2_with (fail)
      go_ret
      refine ⟨?_, hw4.trans ⟨rfl, rfl, rfl, Nat.le_refl _, fun _ _ => rfl⟩⟩
      have e1 := HR.out
      have e2 := HS.out
      rw [List.take_of_length_le (by have : s.data.toList.length = s.size := (Lib.size_eq s).symm; omega)] at e1
      show Ending.returned (Value.string R) = _
      rw [e1, e2]
      rfl
end Go.Proofs.YtcibmhncdgoemaaGreatDoor
namespace Go.Proofs.YtcibmhncdgoemaaGreatDoor
open Go Go.Shelf Go.RowKit Go.Sort Go.Lib

set_option maxHeartbeats 6400000 in
set_option maxRecDepth 1000000 in
theorem rtext_pos (q t b e m c v : Int) (s : ByteArray) (F : Fits q t b e m c v) (he : 0 ≤ e) (hs : s.size ≤ 1000) (w : World) :
    Calls Tryz.prog 16 #[.agg (doneC q t b e m c v s)] w fun r w' => r = .returned (.string (textS q t b e m c v s)) ∧ Below w.heap.size w w' := by
  have hA := at_new w 31 q t b e m c v s
  have hw : Below w.heap.size w (w.alloc (.cells (doneC q t b e m c v s) 31)) := (Below.refl _ _).alloc (Nat.le_refl _) _
  obtain ⟨u, rfl⟩ : ∃ u : Nat, m = u := ⟨m.toNat, by have := F.m0; omega⟩
  have HU : Hid (u < 18446744073709551616) := Lib.hid (by have := F.m1; omega)
  have hSz := headS_size F
  have sq := itoaS_size q F.q0 F.q1
  have st := itoaS_size t F.t0 F.t1
  have sb := itoaS_size b F.b0 F.b1
  have n1 : ¬ 9223372036854775807 < (itoaS q).size + 1 := by omega
  have n2 : ¬ 9223372036854775807 < (itoaS q).size + 1 + (itoaS t).size := by omega
  have n3 : ¬ 9223372036854775807 < (itoaS q).size + 1 + (itoaS t).size + 1 := by omega
  have n4 : ¬ 9223372036854775807 < (itoaS q).size + 1 + (itoaS t).size + 1 + (itoaS b).size := by omega
  have n5 : ¬ 9223372036854775807 < (itoaS q).size + 1 + (itoaS t).size + 1 + (itoaS b).size + 1 := by omega
  clear sq st sb
  go_enter Tryz.func16, Tryz.ntmps16
  go_wp2_with (fail)
  generalize w.alloc (.cells (doneC q t b e u c v s) 31) = W at hA hw ⊢
  have k0 := cell_regrown hA.c0
  have k1 := cell_regrown hA.c1
  have k2 := cell_regrown hA.c2
  have cq := fun d os => regrown_call (W := W) (fun W' _ => num_any q F.q0 F.q1 W') d os
  have ct := fun d os => regrown_call (W := W) (fun W' _ => num_any t F.t0 F.t1 W') d os
  have cb := fun d os => regrown_call (W := W) (fun W' _ => num_any b F.b0 F.b1 W') d os
  refine wp_region_quiet_below (by kernel_rfl) (by kernel_rfl) ?_
  repeat (quiet_step (first | with_reducible exact cq _ _ | with_reducible exact ct _ _ | with_reducible exact cb _ _))
  refine wpQuiet_nil ?_
  intro _ hw'
  obtain ⟨pq, hw''⟩ := hw'
  subst hw''
  have hb2 := below_regrown W pq.d pq.os
  have hA2 := hA.below hb2
  have hw2 := hw.trans (hb2.mono hw.size)
  generalize grow (redrawn W pq.d) pq.os = W2 at hA2 hw2 ⊢
  clear k0 k1 k2 cq ct cb n1 n2 n3 n4 n5 hA hb2 hw
  rw [show itoaS q ++ { data := #[32] } ++ itoaS t ++ { data := #[32] } ++ itoaS b ++ { data := #[45] } = headS q t b from rfl]
  have c3 := hA2.c3
  go_wp2_with (fail)
  clear c3
  have se := itoaS_size e F.e0 F.e1
  have sc := itoaS_size c F.c0 F.c1
  have sv := itoaS_size v F.v0 F.v1
  have sm := decS_size u HU.out
  have n1 : ¬ 9223372036854775807 < (headS q t b).size + (itoaS e).size := by omega
  have n2 : ¬ 9223372036854775807 < (headS q t b).size + (itoaS e).size + 1 := by omega
  have n3 : ¬ 9223372036854775807 < (headS q t b).size + (itoaS e).size + 1 + (decS u).size := by omega
  have n4 : ¬ 9223372036854775807 < (headS q t b).size + (itoaS e).size + 1 + (decS u).size + 1 := by omega
  have n5 : ¬ 9223372036854775807 < (headS q t b).size + (itoaS e).size + 1 + (decS u).size + 1 + (itoaS c).size := by omega
  have n6 : ¬ 9223372036854775807 < (headS q t b).size + (itoaS e).size + 1 + (decS u).size + 1 + (itoaS c).size + 1 := by omega
  have n7 : ¬ 9223372036854775807 < (headS q t b).size + (itoaS e).size + 1 + (decS u).size + 1 + (itoaS c).size + 1 + (itoaS v).size := by omega
  have n8 : ¬ 9223372036854775807 < (headS q t b).size + (itoaS e).size + 1 + (decS u).size + 1 + (itoaS c).size + 1 + (itoaS v).size + 1 := by omega
  clear se sc sv sm
  have k3 := cell_regrown hA2.c3
  have k4 := cell_regrown hA2.c4
  have k5 := cell_regrown hA2.c5
  have k6 := cell_regrown hA2.c6
  have ce := fun d os => regrown_call (W := W2) (fun W' _ => num_any e F.e0 F.e1 W') d os
  have cm := fun d os => regrown_call (W := W2) (fun W' _ => bigS u HU.out W') d os
  have cc := fun d os => regrown_call (W := W2) (fun W' _ => num_any c F.c0 F.c1 W') d os
  have cv := fun d os => regrown_call (W := W2) (fun W' _ => num_any v F.v0 F.v1 W') d os
  refine wp_region_quiet_below (by kernel_rfl) (by kernel_rfl) ?_
  repeat (quiet_step (first | with_reducible exact ce _ _ | with_reducible exact cm _ _ | with_reducible exact cc _ _ | with_reducible exact cv _ _))
  refine wpQuiet_nil ?_
  intro _ hw'
  obtain ⟨pq, hw''⟩ := hw'
  subst hw''
  have hb3 := below_regrown W2 pq.d pq.os
  have hA3 := hA2.below hb3
  have hw3 := hw2.trans (hb3.mono hw2.size)
  generalize grow (redrawn W2 pq.d) pq.os = W3 at hA3 hw3 ⊢
  clear k3 k4 k5 k6 ce cm cc cv n1 n2 n3 n4 n5 n6 n7 n8 hA2 hb3 hw2
  rw [show headS q t b ++ itoaS e ++ { data := #[32] } ++ decS u ++ { data := #[32] } ++ itoaS c ++ { data := #[32] } ++ itoaS v ++ { data := #[32] } = headS q t b ++ midS e u c v from by simp only [midS, ByteArray.append_assoc]; rfl]
  have hmid := midS_size F
  obtain ⟨S, hS⟩ : ∃ S, S = headS q t b ++ midS e u c v := ⟨_, rfl⟩
  rw [← hS]
  have hSs : S.size ≤ 153 := by rw [hS, ByteArray.size_append]; omega
  have HS := Lib.hid hS
  clear hS hSz hmid
  have c7 := hA3.c7
  go_wp2_with (fail)
  go_loopw [3, 5] (fun r i wr => ∃ (k : Nat) (R : ByteArray), k ≤ s.size ∧ Hid (R = S ++ hexS (s.data.toList.take k)) ∧ i = .int .i64 k ∧ r = .string R ∧ ∃ n, wr = W3.drewN n) (fun _ i _ => s.size - (RowKit.intOf i).toNat)
  case atStart => exact ⟨0, S, Nat.zero_le _, Lib.hid (by rw [List.take_zero]; exact (bytes_nil S).symm), rfl, rfl, 0, by rw [World.drewN_zero]⟩
  case round =>
    obtain ⟨k, R, hk, HR, rfl, rfl, n, rfl⟩ := hrel
    by_cases hlt : k < s.size
    · have y1 : ((s[k]'hlt).toNat : Int) < 256 := by have := (s[k]'hlt).toNat_lt; omega
      go_wp2_with (fail)
      obtain ⟨y, hy⟩ : ∃ y : Nat, y = (s[k]'hlt).toNat := ⟨_, rfl⟩
      rw [← hy] at y1 ⊢
      have y0 : (0 : Int) ≤ (y : Int) := by omega
      have HY := Lib.hid hy
      clear hy
      have hRs : R.size ≤ 2153 := by
        rw [HR.out, ByteArray.size_append, hexS_size, List.length_take]; omega
      have g1 : ¬ 9223372036854775807 < R.size + (hexB ((y : Int) / 16).toNat).size := by rw [hexB_size]; omega
      have g2 : ¬ 9223372036854775807 < R.size + (hexB ((y : Int) / 16).toNat).size + (hexB ((y : Int) % 16).toNat).size := by rw [hexB_size, hexB_size]; omega
      clear hRs
      have q1 : IntKind.i64.wrap ((y : Int) / 16) = (y : Int) / 16 := by rw [IntKind.wrap_i64]; omega
      have q2 : (y : Int).tmod 16 = (y : Int) % 16 := by rw [Int.tmod_eq_emod_of_nonneg (by omega)]
      have w1 : IntKind.i64.wrap ((y : Int) / 16 + 1) = (y : Int) / 16 + 1 := by rw [IntKind.wrap_i64]; omega
      have w2 : IntKind.i64.wrap ((y : Int) % 16 + 1) = (y : Int) % 16 + 1 := by rw [IntKind.wrap_i64]; omega
      have s1 := cut_digs .i64 .i64 ((y : Int) / 16) (by omega) (by omega)
      have s2 := cut_digs .i64 .i64 ((y : Int) % 16) (by omega) (by omega)
      refine wp_region_quiet_lit (by kernel_rfl) (by kernel_rfl) ?_
      repeat (quiet_step (fail))
      refine wpQuiet_nil ?_
      intro _ hw'
      obtain ⟨nq, hw''⟩ := hw'
      subst hw''
      go_wp2_with (fail)
      go_roundw
      case rel =>
        refine ⟨k + 1, R ++ hexB ((y : Int) / 16).toNat ++ hexB ((y : Int) % 16).toNat, by omega, Lib.hid ?_, by go_num, rfl, n + nq, rfl⟩
        have ey := HY.out
        rw [take_snoc s k hlt, hexS_snoc, HR.out, ByteArray.append_assoc, ← Lib.getD_at s k hlt, ← ey]
        simp only [ByteArray.append_assoc]
        rfl
      case measure => simp [RowKit.intOf]; omega
    · go_wp2_with (fail)
      go_ret
      refine ⟨?_, hw3.trans ⟨rfl, rfl, rfl, Nat.le_refl _, fun _ _ => rfl⟩⟩
      have e1 := HR.out
      have e2 := HS.out
      rw [List.take_of_length_le (by have : s.data.toList.length = s.size := (Lib.size_eq s).symm; omega)] at e1
      show Ending.returned (Value.string R) = _
      rw [e1, e2]
      rfl
set_option maxHeartbeats 3200000 in
set_option maxRecDepth 1000000 in
theorem rtext_neg (q t b e m c v : Int) (s : ByteArray) (hq0 : -9223372036854775808 ≤ q) (hq1 : q ≤ 9223372036854775807) (ht0 : -9223372036854775808 ≤ t) (ht1 : t ≤ 9223372036854775807)
    (hb0 : -9223372036854775808 ≤ b) (hb1 : b ≤ 9223372036854775807) (he : e < 0) (w : World) :
    Calls Tryz.prog 16 #[.agg (doneC q t b e m c v s)] w fun r w' => r = .returned (.string (itoaS q ++ ⟨#[32]⟩ ++ itoaS t ++ ⟨#[32]⟩ ++ itoaS b ++ ⟨#[45]⟩)) ∧ Below w.heap.size w w' := by
  have hA := at_new w 31 q t b e m c v s
  have hw : Below w.heap.size w (w.alloc (.cells (doneC q t b e m c v s) 31)) := (Below.refl _ _).alloc (Nat.le_refl _) _
  have sq := itoaS_size q hq0 hq1
  have st := itoaS_size t ht0 ht1
  have sb := itoaS_size b hb0 hb1
  have n1 : ¬ 9223372036854775807 < (itoaS q).size + 1 := by omega
  have n2 : ¬ 9223372036854775807 < (itoaS q).size + 1 + (itoaS t).size := by omega
  have n3 : ¬ 9223372036854775807 < (itoaS q).size + 1 + (itoaS t).size + 1 := by omega
  have n4 : ¬ 9223372036854775807 < (itoaS q).size + 1 + (itoaS t).size + 1 + (itoaS b).size := by omega
  have n5 : ¬ 9223372036854775807 < (itoaS q).size + 1 + (itoaS t).size + 1 + (itoaS b).size + 1 := by omega
  clear sq st sb
  go_enter Tryz.func16, Tryz.ntmps16
  go_wp2_with (fail)
  generalize w.alloc (.cells (doneC q t b e m c v s) 31) = W at hA hw ⊢
  have k0 := cell_regrown hA.c0
  have k1 := cell_regrown hA.c1
  have k2 := cell_regrown hA.c2
  have cq := fun d os => regrown_call (W := W) (fun W' _ => num_any q hq0 hq1 W') d os
  have ct := fun d os => regrown_call (W := W) (fun W' _ => num_any t ht0 ht1 W') d os
  have cb := fun d os => regrown_call (W := W) (fun W' _ => num_any b hb0 hb1 W') d os
  refine wp_region_quiet_below (by kernel_rfl) (by kernel_rfl) ?_
  repeat (quiet_step (first | with_reducible exact cq _ _ | with_reducible exact ct _ _ | with_reducible exact cb _ _))
  refine wpQuiet_nil ?_
  intro _ hw'
  obtain ⟨pq, hw''⟩ := hw'
  subst hw''
  have hb2 := below_regrown W pq.d pq.os
  have hA2 := hA.below hb2
  generalize grow (redrawn W pq.d) pq.os = W2 at hA2 hb2 ⊢
  clear k0 k1 k2 cq ct cb n1 n2 n3 n4 n5 hA
  have c3 := hA2.c3
  go_wp2
  go_ret
  exact ⟨rfl, hw.trans (hb2.mono hw.size)⟩

/-- what became of a request, as a text -/
def outS (q t b e m c v : Int) (s : ByteArray) : ByteArray := if e < 0 then headS q t b else textS q t b e m c v s

theorem text_any (q t b e m c v : Int) (s : ByteArray) (F : Fits q t b e m c v) (hs : s.size ≤ 1000) (w : World) (hp : Pow w) :
    Calls Tryz.prog 15 #[.agg (doneC q t b e m c v s)] w fun r w' => r = .returned (.string (outS q t b e m c v s)) ∧ Below w.heap.size w w' := by
  unfold outS
  by_cases he : e < 0
  · rw [if_pos he]
    exact text_neg q t b e m c v s F.q0 F.q1 F.t0 F.t1 F.b0 F.b1 he w hp
  · rw [if_neg he]
    exact text_pos q t b e m c v s F (by omega) hs w hp
theorem rtext_any (q t b e m c v : Int) (s : ByteArray) (F : Fits q t b e m c v) (hs : s.size ≤ 1000) (w : World) :
    Calls Tryz.prog 16 #[.agg (doneC q t b e m c v s)] w fun r w' => r = .returned (.string (outS q t b e m c v s)) ∧ Below w.heap.size w w' := by
  unfold outS
  by_cases he : e < 0
  · rw [if_pos he]
    exact rtext_neg q t b e m c v s F.q0 F.q1 F.t0 F.t1 F.b0 F.b1 he w
  · rw [if_neg he]
    exact rtext_pos q t b e m c v s F (by omega) hs w
end Go.Proofs.YtcibmhncdgoemaaGreatDoor
namespace Go.Proofs.YtcibmhncdgoemaaGreatDoor
open Go Go.Shelf Go.RowKit Go.Sort Go.Lib

set_option maxHeartbeats 3200000 in
set_option maxRecDepth 1000000 in
theorem law_long (q t b e m c v : Int) (s : ByteArray) (hs : 1000 < s.size) (h64 : s.size ≤ 9223372036854775807) (w : World)
    (hk : ∀ W, Below w.heap.size w W → Calls Tryz.prog 7 #[] W fun r w' => r = .returned (.bool true) ∧ Below W.heap.size W w') :
    Calls Tryz.prog 4 #[.agg (doneC q t b e m c v s)] w fun r w' => r = .returned (.bool true) ∧ Below w.heap.size w w' := by
  have hA := at_new w 31 q t b e m c v s
  have hw : Below w.heap.size w (w.alloc (.cells (doneC q t b e m c v s) 31)) := (Below.refl _ _).alloc (Nat.le_refl _) _
  have hk1 := hk _ hw
  have c7 := hA.c7
  have g : (1000 : Int) < (s.size : Int) := by omega
  go_enter Tryz.func4, Tryz.ntmps4
  go_wp2_with (go_at_call 7; (with_reducible refine (hk1).mono ?_); rintro r w1 ⟨rfl, hb⟩)
  go_ret
  exact ⟨rfl, hw.trans (hb.mono hw.size)⟩

set_option maxHeartbeats 3200000 in
set_option maxRecDepth 1000000 in
theorem law_short (q t b e m c v : Int) (s : ByteArray) (F : Fits q t b e m c v) (hs : s.size ≤ 1000) (w : World) (hp : Pow w)
    (hk : ∀ W, Below w.heap.size w W → Calls Tryz.prog 7 #[] W fun r w' => r = .returned (.bool true) ∧ Below W.heap.size W w') :
    Calls Tryz.prog 4 #[.agg (doneC q t b e m c v s)] w fun r w' => r = .returned (.bool true) ∧ Below w.heap.size w w' := by
  have hA := at_new w 31 q t b e m c v s
  have hw : Below w.heap.size w (w.alloc (.cells (doneC q t b e m c v s) 31)) := (Below.refl _ _).alloc (Nat.le_refl _) _
  have hp1 := hp.below hw
  have g : ¬ (1000 : Int) < (s.size : Int) := by omega
  have c7 := hA.c7
  go_enter Tryz.func4, Tryz.ntmps4
  go_wp2_with (fail)
  generalize w.alloc (.cells (doneC q t b e m c v s) 31) = W at hA hw hp1 c7 ⊢
  have c1 := fun d os => regrown_call (W := W) (fun W' hb => text_any q t b e m c v s F hs W' (hp1.below hb)) d os
  have c2 := fun d os => regrown_call (W := W) (fun W' _ => rtext_any q t b e m c v s F hs W') d os
  have c3 := fun d os => regrown_call (W := W) (fun W' hb => hk W' (hw.trans (hb.mono hw.size))) d os
  simp only [doneC] at c1 c2
  have k0 := cell_regrown hA.c0
  have k1 := cell_regrown hA.c1
  have k2 := cell_regrown hA.c2
  have k3 := cell_regrown hA.c3
  have k4 := cell_regrown hA.c4
  have k5 := cell_regrown hA.c5
  have k6 := cell_regrown hA.c6
  have k7 := cell_regrown hA.c7
  refine wp_region_quiet_below (by kernel_rfl) (by kernel_rfl) ?_
  repeat (quiet_step (first | with_reducible exact c1 _ _ | with_reducible exact c2 _ _ | with_reducible exact c3 _ _))
  refine wpQuiet_nil ?_
  intro _ hw'
  obtain ⟨pq, hw''⟩ := hw'
  subst hw''
  go_wp2_with (fail)
  go_ret
  exact ⟨rfl, hw.trans ((below_regrown W pq.d pq.os).mono hw.size)⟩
end Go.Proofs.YtcibmhncdgoemaaGreatDoor
namespace Go.Proofs.YtcibmhncdgoemaaGreatDoor
open Go Go.ChangeShapes Go.WideShapes Go.ChangeAt Go.RowKit

theorem cells31 : Tryz.prog.cellsOf 31 = 8 := by kernel_rfl
theorem cells28 : Tryz.prog.cellsOf 28 = 3 := by kernel_rfl
theorem cells3 : Tryz.prog.cellsOf 3 = 1 := by kernel_rfl
theorem cells29 : Tryz.prog.cellsOf 29 = 1 := by kernel_rfl
theorem cells26 : Tryz.prog.cellsOf 26 = 1 := by kernel_rfl
theorem cells9 : Tryz.prog.cellsOf 9 = 1 := by kernel_rfl

theorem arr8 {α : Type} {a : Array α} (h : a.size = 8) : ∃ x0 x1 x2 x3 x4 x5 x6 x7, a = #[x0, x1, x2, x3, x4, x5, x6, x7] := by
  obtain ⟨l⟩ := a
  match l, h with
  | [x0, x1, x2, x3, x4, x5, x6, x7], _ => exact ⟨x0, x1, x2, x3, x4, x5, x6, x7, rfl⟩
theorem list6 {α : Type} {l : List α} (h : l.length = 6) : ∃ x0 x1 x2 x3 x4 x5, l = [x0, x1, x2, x3, x4, x5] := by
  match l, h with
  | [x0, x1, x2, x3, x4, x5], _ => exact ⟨x0, x1, x2, x3, x4, x5, rfl⟩
theorem list3 {α : Type} {l : List α} (h : l.length = 3) : ∃ x0 x1 x2, l = [x0, x1, x2] := by
  match l, h with
  | [x0, x1, x2], _ => exact ⟨x0, x1, x2, rfl⟩

section
variable {H : Type} {enc : TypeId × Value → H} {w : World} {base : Nat} {spare : Nat → Bool} {held : Bool}
/-- the record's datum -/
def doneD (q t b e m c v : Int) (s : ByteArray) : DataW H := .agg [.lit (.int .i64 q), .lit (.int .i64 t), .lit (.int .i64 b), .lit (.int .i64 e), .lit (.int .u64 m), .agg [.lit (.int .i64 c), .lit (.int .i64 v), .lit (.string s.data.toList)]]
theorem min64 : IntKind.i64.min = -9223372036854775808 := by decide +kernel
theorem max64 : IntKind.i64.max = 9223372036854775807 := by decide +kernel
theorem minU64 : IntKind.u64.min = 0 := by decide +kernel
theorem maxU64 : IntKind.u64.max = 18446744073709551615 := by decide +kernel
theorem wf64 {n : Int} (h : (Lit.int .i64 n).wf = true) : -9223372036854775808 ≤ n ∧ n ≤ 9223372036854775807 := by
  have h' : (decide (IntKind.i64.min ≤ n) && decide (n ≤ IntKind.i64.max)) = true := h
  rw [min64, max64] at h'
  simpa using h'
theorem wfu64 {n : Int} (h : (Lit.int .u64 n).wf = true) : 0 ≤ n ∧ n < 18446744073709551616 := by
  have h1 : (decide (IntKind.u64.min ≤ n) && decide (n ≤ IntKind.u64.max)) = true := h
  rw [minU64, maxU64] at h1
  have h' : 0 ≤ n ∧ n ≤ 18446744073709551615 := by simpa using h1
  omega
set_option maxRecDepth 100000 in
theorem open_done {r : Reach} {b0 : Nat} {x : Value} {d : DataW H} {p : List MemPlace} (hv : Value.okWide Tryz.prog w r b0 31 x) (h : DataW.Trod enc Tryz.prog w base spare held 31 x d p) :
    ∃ (q t b e m c v : Int) (s : ByteArray), x = .agg (doneC q t b e m c v s) ∧ Fits q t b e m c v ∧ s.size ≤ maxLen ∧ d = doneD q t b e m c v s ∧ p = [] ∧
      ∀ (w' : World) (base' : Nat) (spare' : Nat → Bool), DataW.Trod enc Tryz.prog w' base' spare' held 31 (.agg (doneC q t b e m c v s)) (doneD q t b e m c v s) [] := by
  obtain ⟨cs, rfl, hsz⟩ := okWide_struct Tryz.underlying31 hv
  rw [cells31] at hsz
  obtain ⟨a0, a1, a2, a3, a4, a5, a6, a7, rfl⟩ := arr8 hsz
  obtain ⟨fuel, hf⟩ := h
  obtain ⟨xs, n, _, hx, _, hl, hg⟩ := DataW.trod_struct Tryz.underlying31 hf
  obtain ⟨y0, y1, y2, y3, y4, y5, rfl⟩ := list6 (show xs.length = 6 from hl)
  have g0 := hg 0 _ rfl
  have g1 := hg 1 _ rfl
  have g2 := hg 2 _ rfl
  have g3 := hg 3 _ rfl
  have g4 := hg 4 _ rfl
  have g5 := hg 5 _ rfl
  obtain ⟨q, e0, rfl, z0⟩ := DataW.trod_int Tryz.underlying3 g0
  obtain ⟨t, e1, rfl, z1⟩ := DataW.trod_int Tryz.underlying3 g1
  obtain ⟨b, e2, rfl, z2⟩ := DataW.trod_int Tryz.underlying3 g2
  obtain ⟨e, e3, rfl, z3⟩ := DataW.trod_int Tryz.underlying3 g3
  obtain ⟨m, e4, rfl, z4⟩ := DataW.trod_int Tryz.underlying29 g4
  obtain ⟨xs5, n5, _, hx5, _, hl5, hg5⟩ := DataW.trod_struct Tryz.underlying28 g5
  obtain ⟨u0, u1, u2, rfl⟩ := list3 (show xs5.length = 3 from hl5)
  have k0 := hg5 0 _ rfl
  have k1 := hg5 1 _ rfl
  have k2 := hg5 2 _ rfl
  obtain ⟨c, e5, rfl, z5⟩ := DataW.trod_int Tryz.underlying26 k0
  obtain ⟨v, e6, rfl, z6⟩ := DataW.trod_int Tryz.underlying3 k1
  obtain ⟨s, e7, rfl, z7⟩ := DataW.trod_string Tryz.underlying9 k2
  simp [Value.cells, cells3, cells28, cells26, cells29, cells9] at e0 e1 e2 e3 e4 e5 e6 e7
  subst e0 e1 e2 e3 e4 e5 e6 e7 hx5
  simp only [Prod.mk.injEq] at hx
  have f0 := wf64 z0
  have f1 := wf64 z1
  have f2 := wf64 z2
  have f3 := wf64 z3
  have f4 := wfu64 z4
  have f5 := wf64 z5
  have f6 := wf64 z6
  refine ⟨q, t, b, e, m, c, v, s, rfl, ⟨f0.1, f0.2, f1.1, f1.2, f2.1, f2.2, f3.1, f3.2, f4.1, f4.2, f5.1, f5.2, f6.1, f6.2⟩, z7, ?_, ?_, ?_⟩
  · rw [hx.1]; rfl
  · rw [hx.2]; rfl
  · intro w' base' spare'
    refine ⟨3, ?_⟩
    simp [DataW.trod, Tryz.underlying31, Tryz.underlying28, Tryz.underlying3, Tryz.underlying29, Tryz.underlying26, Tryz.underlying9, Value.cells, doneC, doneD, cells31, cells28, cells3, cells29, cells26, cells9, z0, z1, z2, z3, z4, z5, z6, z7]
end
end Go.Proofs.YtcibmhncdgoemaaGreatDoor
