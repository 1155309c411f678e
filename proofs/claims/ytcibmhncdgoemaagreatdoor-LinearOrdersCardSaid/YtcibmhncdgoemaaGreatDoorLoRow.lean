/- The row of LinearOrders: it returns true at every list of requests and every history, and both read as before. -/
import Derived.Test.YtcibmhncdgoemaaGreatDoorLo2
import Derived.Test.YtcibmhncdgoemaaGreatDoorLtKnown
import Derived.ProofKit
import Derived.OpenShut
import Derived.ChangeArms
import Derived.WideShapes
import Derived.Carry
import Derived.DataReads
import Derived.Stop.LaidErr
set_option linter.unusedVariables false
set_option linter.unusedSimpArgs false
set_option linter.unusedSectionVars false
namespace Go.Proofs.YtcibmhncdgoemaaGreatDoor
open Go.ChangeShapes Go.WideShapes Go.ChangeAt Go.WideMaps Go.WideElems Go.RowKit Go Go.Abs Go.Lib

theorem cells31 : Tryz.prog.cellsOf 31 = 8 := by kernel_rfl
theorem cells40 : Tryz.prog.cellsOf 40 = 3 := by kernel_rfl
theorem cells28 : Tryz.prog.cellsOf 28 = 3 := by kernel_rfl
theorem cells3 : Tryz.prog.cellsOf 3 = 1 := by kernel_rfl
theorem cells29 : Tryz.prog.cellsOf 29 = 1 := by kernel_rfl
theorem cells26 : Tryz.prog.cellsOf 26 = 1 := by kernel_rfl
theorem cells9 : Tryz.prog.cellsOf 9 = 1 := by kernel_rfl
theorem laidOutT : laidOutB Tryz.prog = true := by kernel_rfl

theorem list8 {α : Type} {l : List α} (h : l.length = 8) : ∃ x0 x1 x2 x3 x4 x5 x6 x7, l = [x0, x1, x2, x3, x4, x5, x6, x7] := by
  match l, h with
  | [x0, x1, x2, x3, x4, x5, x6, x7], _ => exact ⟨x0, x1, x2, x3, x4, x5, x6, x7, rfl⟩
theorem list6 {α : Type} {l : List α} (h : l.length = 6) : ∃ x0 x1 x2 x3 x4 x5, l = [x0, x1, x2, x3, x4, x5] := by
  match l, h with
  | [x0, x1, x2, x3, x4, x5], _ => exact ⟨x0, x1, x2, x3, x4, x5, rfl⟩
theorem list3 {α : Type} {l : List α} (h : l.length = 3) : ∃ x0 x1 x2, l = [x0, x1, x2] := by
  match l, h with
  | [x0, x1, x2], _ => exact ⟨x0, x1, x2, rfl⟩
theorem some_list {α : Type} (P : Nat → α → Prop) : ∀ n, (∀ i, i < n → ∃ x, P i x) → ∃ l : List α, l.length = n ∧ ∀ i x, l[i]? = some x → P i x
  | 0, _ => ⟨[], rfl, fun i x h => by simp at h⟩
  | n + 1, H => by
    obtain ⟨l, hl, hP⟩ := some_list P n fun i hi => H i (by omega)
    obtain ⟨x, hx⟩ := H n (by omega)
    refine ⟨l ++ [x], by simp [hl], fun i y hy => ?_⟩
    by_cases h : i < n
    · rw [List.getElem?_append_left (by omega)] at hy
      exact hP i y hy
    · have hi := (List.getElem?_eq_some_iff.1 hy).1
      rw [List.length_append] at hi
      have hi' : i = n := by simp at hi; omega
      subst hi'
      rw [List.getElem?_append_right (by omega), hl, Nat.sub_self] at hy
      simp at hy
      subst hy
      exact hx

section
variable {H : Type} {enc : TypeId × Value → H} {w : World} {base : Nat} {spare : Nat → Bool} {held : Bool} {fuel : Nat}
set_option maxRecDepth 100000 in
theorem open_dn {cs : List Value} {x : DataW H × List MemPlace} (hf : DataW.trod enc Tryz.prog w base spare held fuel 31 cs = some x) :
    ∃ y : Dn, cs = [.int .i64 y.q, .int .i64 y.t, .int .i64 y.b, .int .i64 y.e, .int .u64 y.m, .int .i64 y.c, .int .i64 y.v, .string y.s] ∧ y.s.size ≤ maxLen ∧ (Lit.int .i64 y.q).wf = true := by
  obtain ⟨xs, n, _, hx, hlen, hl, hg⟩ := DataW.trod_struct Tryz.underlying31 hf
  rw [cells31] at hlen
  obtain ⟨a0, a1, a2, a3, a4, a5, a6, a7, rfl⟩ := list8 hlen
  obtain ⟨y0, y1, y2, y3, y4, y5, rfl⟩ := list6 (show xs.length = 6 from hl)
  have g0 := hg 0 _ rfl
  have g1 := hg 1 _ rfl
  have g2 := hg 2 _ rfl
  have g3 := hg 3 _ rfl
  have g4 := hg 4 _ rfl
  have g5 := hg 5 _ rfl
  obtain ⟨q, e0, rfl, z0⟩ := DataW.trod_int Tryz.underlying3 g0
  obtain ⟨t, e1, rfl, z1⟩ := DataW.trod_int Tryz.underlying3 g1
  obtain ⟨b, e2, rfl, z2⟩ := DataW.trod_int Tryz.underlying3 g2
  obtain ⟨e, e3, rfl, z3⟩ := DataW.trod_int Tryz.underlying3 g3
  obtain ⟨m, e4, rfl, z4⟩ := DataW.trod_int Tryz.underlying29 g4
  obtain ⟨xs5, n5, _, hx5, _, hl5, hg5⟩ := DataW.trod_struct Tryz.underlying28 g5
  obtain ⟨u0, u1, u2, rfl⟩ := list3 (show xs5.length = 3 from hl5)
  have k0 := hg5 0 _ rfl
  have k1 := hg5 1 _ rfl
  have k2 := hg5 2 _ rfl
  obtain ⟨c, e5, rfl, z5⟩ := DataW.trod_int Tryz.underlying26 k0
  obtain ⟨v, e6, rfl, z6⟩ := DataW.trod_int Tryz.underlying3 k1
  obtain ⟨s, e7, rfl, z7⟩ := DataW.trod_string Tryz.underlying9 k2
  simp [cells3, cells28, cells26, cells29, cells9] at e0 e1 e2 e3 e4 e5 e6 e7
  subst e0 e1 e2 e3 e4 e5 e6 e7
  exact ⟨⟨q, t, b, e, m, c, v, s⟩, rfl, z7, z0⟩
set_option maxRecDepth 100000 in
theorem open_rq {cs : List Value} {x : DataW H × List MemPlace} (hf : DataW.trod enc Tryz.prog w base spare held fuel 40 cs = some x) :
    ∃ y : Rq, cs = [.int .i64 y.t, .int .u64 y.d, .string y.s] ∧ y.s.size ≤ maxLen := by
  obtain ⟨xs, n, _, hx, hlen, hl, hg⟩ := DataW.trod_struct Tryz.underlying40 hf
  rw [cells40] at hlen
  obtain ⟨a0, a1, a2, rfl⟩ := list3 hlen
  obtain ⟨y0, y1, y2, rfl⟩ := list3 (show xs.length = 3 from hl)
  have g0 := hg 0 _ rfl
  have g1 := hg 1 _ rfl
  have g2 := hg 2 _ rfl
  obtain ⟨t, e0, rfl, z0⟩ := DataW.trod_int Tryz.underlying3 g0
  obtain ⟨d, e1, rfl, z1⟩ := DataW.trod_int Tryz.underlying29 g1
  obtain ⟨s, e2, rfl, z2⟩ := DataW.trod_string Tryz.underlying9 g2
  simp [cells3, cells29, cells9] at e0 e1 e2
  subst e0 e1 e2
  exact ⟨⟨t, d, s⟩, rfl, z2⟩
theorem spot_none {a : Addr} {v : Value} (h : w.cell? a = some v) : a.spot = none := by
  unfold World.cell? at h
  cases hs : a.spot with
  | none => rfl
  | some s =>
    rw [hs] at h
    split at h <;> simp at h
theorem open_hist {a : Option Addr} {len cap : Nat} {d : DataW H} {p : List MemPlace} (h : DataW.Trod enc Tryz.prog w base spare held 23 (.slice a len cap) d p) :
    ∃ gs : List Dn, gs.length = len ∧ HistSl w a len gs ∧ (∀ x ∈ gs, x.s.size ≤ maxLen) ∧ ∀ x ∈ gs, (Lit.int .i64 x.q).wf = true := by
  obtain ⟨fuel, hf⟩ := h
  rcases DataW.trod_slice Tryz.underlying23 hf with ⟨hcs, hx⟩ | ⟨a', len', cap', elems, rest, n, _, hcs, _, hb, hl, hm, hlen, hel, _, _⟩
  · simp [Value.cells] at hcs
    obtain ⟨rfl, rfl, rfl⟩ := hcs
    exact ⟨[], rfl, (fun h => by omega), (fun x h => by cases h), (fun x h => by cases h)⟩
  · simp [Value.cells] at hcs
    obtain ⟨rfl, rfl, rfl⟩ := hcs
    obtain ⟨gs, hgl, hP⟩ := some_list (fun i (y : Dn) => (∀ j v, [Value.int .i64 y.q, .int .i64 y.t, .int .i64 y.b, .int .i64 y.e, .int .u64 y.m, .int .i64 y.c, .int .i64 y.v, .string y.s][j]? = some v → w.cell? ((a'.add (i * 8)).add j) = some v) ∧ y.s.size ≤ maxLen ∧ (Lit.int .i64 y.q).wf = true) len fun i hi => by
      have he := hel i hi
      rw [List.getElem?_eq_getElem (by omega), cells31, Option.bind_eq_some_iff] at he
      obtain ⟨cs, hcs, hy⟩ := he
      obtain ⟨y, rfl, hs, hw⟩ := open_dn hy
      refine ⟨y, fun j v hv => ?_, hs, hw⟩
      rw [(World.cells?_some hcs).2.2 j (by have := (List.getElem?_eq_some_iff.1 hv).1; simpa using this)]
      exact hv
    refine ⟨gs, hgl, fun h0 => ?_, fun x hx => ?_, fun x hx => ?_⟩
    · have c0 := (hP 0 gs[0] (List.getElem?_eq_getElem (by omega))).1 0 _ rfl
      simp [Addr.add] at c0
      have hsp := spot_none c0
      obtain ⟨b, o, sp⟩ := a'
      obtain rfl : sp = none := hsp
      refine ⟨b, o, rfl, fun k x hx => ?_, block_lt_of_cell c0⟩
      have hc := (hP k x hx).1
      rw [Lib.add_plain] at hc
      constructor
      · have := hc 0 _ rfl; rw [Lib.add_plain] at this; exact this
      · have := hc 1 _ rfl; rw [Lib.add_plain] at this; exact this
      · have := hc 2 _ rfl; rw [Lib.add_plain] at this; exact this
      · have := hc 3 _ rfl; rw [Lib.add_plain] at this; exact this
      · have := hc 4 _ rfl; rw [Lib.add_plain] at this; exact this
      · have := hc 5 _ rfl; rw [Lib.add_plain] at this; exact this
      · have := hc 6 _ rfl; rw [Lib.add_plain] at this; exact this
      · have := hc 7 _ rfl; rw [Lib.add_plain] at this; exact this
    · obtain ⟨i, hi⟩ := List.getElem?_of_mem hx
      exact (hP i x hi).2.1
    · obtain ⟨i, hi⟩ := List.getElem?_of_mem hx
      exact (hP i x hi).2.2
theorem open_reqs {a : Option Addr} {len cap : Nat} {d : DataW H} {p : List MemPlace} (h : DataW.Trod enc Tryz.prog w base spare held 22 (.slice a len cap) d p) :
    ∃ l : List Rq, l.length = len ∧ ReqSl w a len l ∧ ∀ x ∈ l, x.s.size ≤ maxLen := by
  obtain ⟨fuel, hf⟩ := h
  rcases DataW.trod_slice Tryz.underlying22 hf with ⟨hcs, hx⟩ | ⟨a', len', cap', elems, rest, n, _, hcs, _, hb, hl, hm, hlen, hel, _, _⟩
  · simp [Value.cells] at hcs
    obtain ⟨rfl, rfl, rfl⟩ := hcs
    exact ⟨[], rfl, fun h => by omega, fun x h => by cases h⟩
  · simp [Value.cells] at hcs
    obtain ⟨rfl, rfl, rfl⟩ := hcs
    obtain ⟨gs, hgl, hP⟩ := some_list (fun i (y : Rq) => (∀ j v, [Value.int .i64 y.t, .int .u64 y.d, .string y.s][j]? = some v → w.cell? ((a'.add (i * 3)).add j) = some v) ∧ y.s.size ≤ maxLen) len fun i hi => by
      have he := hel i hi
      rw [List.getElem?_eq_getElem (by omega), cells40, Option.bind_eq_some_iff] at he
      obtain ⟨cs, hcs, hy⟩ := he
      obtain ⟨y, rfl, hs⟩ := open_rq hy
      refine ⟨y, fun j v hv => ?_, hs⟩
      rw [(World.cells?_some hcs).2.2 j (by have := (List.getElem?_eq_some_iff.1 hv).1; simpa using this)]
      exact hv
    refine ⟨gs, hgl, fun h0 => ?_, fun x hx => ?_⟩
    · have c0 := (hP 0 gs[0] (List.getElem?_eq_getElem (by omega))).1 0 _ rfl
      simp [Addr.add] at c0
      have hsp := spot_none c0
      obtain ⟨b, o, sp⟩ := a'
      obtain rfl : sp = none := hsp
      refine ⟨b, o, rfl, fun k x hx => ?_, block_lt_of_cell c0⟩
      have hc := (hP k x hx).1
      rw [Lib.add_plain] at hc
      constructor
      · have := hc 0 _ rfl; rw [Lib.add_plain] at this; exact this
      · have := hc 2 _ rfl; rw [Lib.add_plain] at this; exact this
    · obtain ⟨i, hi⟩ := List.getElem?_of_mem hx
      exact (hP i x hi).2
end

set_option maxRecDepth 100000 in
theorem linearOrders_lifted (os : Os) (started : os.Started) (H : Type) (enc : TypeId × Value → H) :
    ReturnsInHanded {} Tryz.checked os 3 .any (fun w args => (Rows.linearOrdersSpec.pre enc Tryz.prog Tryz.f3 [] false w args ∧ laidMetH Tryz.prog laidL w) ∧ sizedMet enc Tryz.prog Tryz.f3 (OpenSpec.ofChange Rows.linearOrdersSpec) false w args)
      (Rows.linearOrdersSpec.post enc Tryz.prog Tryz.f3 false true false false) := by
  refine returnsInHanded_of_change_and (C := Tryz.checked) (X := fun w _ => laidMetH Tryz.prog laidL w) (fun _ _ _ hh h => h.of_heap hh) own started (by kernel_rfl) Tryz.func3
    (ChangeSpec.witness_shaped (enc := enc) (C := Tryz.checked) (os := os) (X := fun w _ => laidMetH Tryz.prog laidL w) false (World.doorLaid Tryz.prog 4000 os) #[.slice none 0 0, .slice none 0 0] 8 rfl (World.shaped_of_RefB (by kernel_rfl) (by kernel_rfl)) (by kernel_rfl) (by kernel_rfl) (by kernel_rfl) (door_met os _)) ?_
  intro W base args ds gs before hval0 hW _ _ hL _
  have hval : ∀ (j : Nat) t v, Tryz.f3.params[j]? = some t → args[j]? = some v → Value.okWide Tryz.prog W .any base t v := hval0
  have hW' := hW
  obtain ⟨p, q', hA0, hV, rfl, hfz, hnd⟩ := hW
  have hA : DataW.TrodAll enc Tryz.prog W 0 (fun _ => true) true Tryz.f3.params.toList args.toList ds p := hA0
  rw [Tryz.params3] at hA hval
  obtain ⟨v0, v1, d0, d1, p0, p1, rfl, rfl, rfl, h0, h1⟩ := trodAll_two hA
  obtain ⟨rfl, rfl⟩ := trodVars_none hV
  obtain ⟨a0, len0, cap0, rfl⟩ := okWide_slice Tryz.underlying22 (hval 0 22 v0 rfl rfl)
  obtain ⟨a1, len1, cap1, rfl⟩ := okWide_slice Tryz.underlying23 (hval 1 23 v1 rfl rfl)
  clear hA0 hval0
  simp only [List.append_nil] at hW'
  have hlt : ∀ x ∈ p0 ++ p1, x.block < W.heap.size := fun x hx => by simpa using hW'.lt x hx
  obtain ⟨l, hl, hR, hlz⟩ := open_reqs h0
  obtain ⟨gs, hgl, hH, hgz, hwf⟩ := open_hist h1
  have hl' := laid_plain hL
  refine (orders_s a0 a1 cap0 len0 cap1 len1 l gs hl hgl W (fun W' hb => known_any hl' hb.block) hR hH hlz hgz hwf).mono fun r W' h => ?_
  obtain ⟨rfl, hb⟩ := h
  refine ⟨_, rfl, _, _, _, [], _, [], hW', ?_, trodAll_mk2 (Below.trod laidOutT (by kernel_rfl) (of_decide_eq_true (by kernel_rfl)) h0 hb (fun x hx => hlt x (List.mem_append.2 (.inl hx)))) (Below.trod laidOutT (by kernel_rfl) (of_decide_eq_true (by kernel_rfl)) h1 hb (fun x hx => hlt x (List.mem_append.2 (.inr hx)))), rfl, hb.frame _, fun h => by cases h⟩
  exact trodAll_mk1 (shut_bool Tryz.underlying4 _)

theorem linearOrders_row : Rows.LinearOrdersSaid :=
  OpenClaim.holds_of_wide 3 Tryz.f3 rfl rfl rfl rfl rfl rfl rfl ⟨rfl, rfl, rfl, rfl, rfl⟩ rfl rfl rfl rfl rfl (by kernel_rfl) Tryz.func3 (by kernel_rfl)
    (of_decide_eq_true (by kernel_rfl)) (by unfold Func.isWrapper; first | (rw [if_pos (by decide +kernel)]; kernel_rfl) | (rw [if_neg (by decide +kernel)]; exact ⟨rfl, rfl⟩))
    (fun os started H enc _ => linearOrders_lifted os started H enc)
end Go.Proofs.YtcibmhncdgoemaaGreatDoor
