/- The walks of what LinearOrders reaches, of the program and of the reference, and of the law itself, under the contract of known. -/
import Derived.Test.YtcibmhncdgoemaaGreatDoorLo1
import Derived.OwnWalk
import Derived.Laws.AppendOwn
import Derived.Laws.OwnMore
import Derived.Deep.RegionLaw
import Derived.Lib.ItoaMem
import Derived.Laws.AppendOwnNone
import Derived.LoopN
import Derived.Laws.MakeOwn
import Derived.Lib.ConvBytes
import Derived.Lib.AtoiErrMem
import Derived.Deep.Onto
import Derived.Maps.OwnOps
import Derived.Maps.Views
import Derived.BigQuiet
import Derived.Lib.QuietBelow
set_option linter.unusedVariables false
set_option linter.unusedSimpArgs false
set_option linter.unusedSectionVars false
namespace Go.Proofs.YtcibmhncdgoemaaGreatDoor
open Go Go.Shelf Go.RowKit Go.Lib Go.Sort

/-- one call that was done -/
structure Dn where
  q : Int
  t : Int
  b : Int
  e : Int
  m : Int
  c : Int
  v : Int
  s : ByteArray
/-- it lies in a block from a place on -/
structure AtO (W : World) (B o : Nat) (x : Dn) : Prop where
  c0 : W.cell? ⟨B, o, none⟩ = some (.int .i64 x.q)
  c1 : W.cell? ⟨B, o + 1, none⟩ = some (.int .i64 x.t)
  c2 : W.cell? ⟨B, o + 2, none⟩ = some (.int .i64 x.b)
  c3 : W.cell? ⟨B, o + 3, none⟩ = some (.int .i64 x.e)
  c4 : W.cell? ⟨B, o + 4, none⟩ = some (.int .u64 x.m)
  c5 : W.cell? ⟨B, o + 5, none⟩ = some (.int .i64 x.c)
  c6 : W.cell? ⟨B, o + 6, none⟩ = some (.int .i64 x.v)
  c7 : W.cell? ⟨B, o + 7, none⟩ = some (.string x.s)
theorem AtO.below {W W' : World} {N B o : Nat} {x : Dn} (h : AtO W B o x) (hB : B < N) (hb : Below N W W') : AtO W' B o x := by
  constructor
  · rw [hb.cell (p := ⟨B, o, none⟩) hB]; exact h.c0
  · rw [hb.cell (p := ⟨B, o + 1, none⟩) hB]; exact h.c1
  · rw [hb.cell (p := ⟨B, o + 2, none⟩) hB]; exact h.c2
  · rw [hb.cell (p := ⟨B, o + 3, none⟩) hB]; exact h.c3
  · rw [hb.cell (p := ⟨B, o + 4, none⟩) hB]; exact h.c4
  · rw [hb.cell (p := ⟨B, o + 5, none⟩) hB]; exact h.c5
  · rw [hb.cell (p := ⟨B, o + 6, none⟩) hB]; exact h.c6
  · rw [hb.cell (p := ⟨B, o + 7, none⟩) hB]; exact h.c7
/-- a history lies in a block from a place on -/
def HistAt (w : World) (hb ho : Nat) (l : List Dn) : Prop := ∀ k x, l[k]? = some x → AtO w hb (ho + k * 8) x
theorem HistAt.below {w w' : World} {N hb ho : Nat} {l : List Dn} (h : HistAt w hb ho l) (hB : hb < N) (hb' : Below N w w') : HistAt w' hb ho l := fun k x hx => (h k x hx).below hB hb'
/-- the places of those that ended, of the first k -/
def ended (l : List Dn) (k : Nat) : List Nat := (List.range k).filter fun i => match l[i]? with | some x => decide (0 ≤ x.e) | none => false
theorem ended_zero (l : List Dn) : ended l 0 = [] := rfl
theorem ended_yes {l : List Dn} {k : Nat} {x : Dn} (h : l[k]? = some x) (he : 0 ≤ x.e) : ended l (k + 1) = ended l k ++ [k] := by
  unfold ended
  rw [List.range_succ, List.filter_append]
  simp [h, he]
theorem ended_no {l : List Dn} {k : Nat} {x : Dn} (h : l[k]? = some x) (he : ¬ 0 ≤ x.e) : ended l (k + 1) = ended l k := by
  unfold ended
  rw [List.range_succ, List.filter_append]
  simp [h, he]
theorem ended_len (l : List Dn) (k : Nat) : (ended l k).length ≤ k := by
  unfold ended
  exact Nat.le_trans (List.length_filter_le _ _) (by simp)
/-- a place, as a number -/
def natV (i : Nat) : Value := .int .i64 (i : Int)
theorem infoInt : (Tryz.prog.info? 3).map (fun i => (i.zero, i.size, i.bytes)) = some (some (.int .i64 0), 1, 8) := by kernel_rfl

/-- a slice of places, as it reads in a world -/
def RowOf (w : World) (v : Value) (r : List Nat) : Prop :=
  (v = .slice none 0 0 ∧ r = []) ∨ ∃ blk cap, v = .slice (some ⟨blk, 0, none⟩) r.length cap ∧ blk < w.heap.size ∧ ∀ (j x : Nat), r[j]? = some x → w.cell? ⟨blk, j, none⟩ = some (natV x)
/-- the end of a place's call -/
def endOf (l : List Dn) (i : Nat) : Int := match l[i]? with | some x => x.e | none => 0
/-- the places of those that ended, by their ends -/
structure IsEnds (l : List Dn) (r : List Nat) : Prop where
  perm : r.Perm (ended l l.length)
  sorted : r.Pairwise fun a b => ltX (endOf l) (fun i => i) b a = false
theorem row_some {w : World} {B : Nat} {v : Value} {n : Nat} {xs : List Value} (h : w.ownsRow B 3 1 v n xs) (hn : 0 < n) : ∃ g cap, v = .slice (some ⟨g, 0, none⟩) n cap ∧ B ≤ g ∧ g < w.heap.size := by
  rcases h.2 with ⟨_, h0⟩ | ⟨g, cap, cur, rfl, hb, hg, _⟩
  · omega
  · exact ⟨g, cap, rfl, hb, (Array.getElem?_eq_some_iff.1 hg).1⟩

theorem sw_below {α : Type} [Inhabited α] {enc : α → Value} {w W : World} {g off B : Nat} {dk : Array α} (h : SW enc w g off dk W) (hg : g < w.heap.size) (hB : B ≤ g) : Below B w W := by
  obtain ⟨m, os, rfl⟩ := h
  refine ⟨rfl, rfl, rfl, ?_, fun i hi => ?_⟩
  · simp [sortWorld]
  · unfold sortWorld
    rw [heap_grow_old _ _ (by simp; omega)]
    simp only [putRow, mapBlock, Sort.ahead, Array.getElem?_modify]
    rw [if_neg (by omega)]
theorem ended_lt {l : List Dn} {k i : Nat} (h : i ∈ ended l k) : i < k := by
  unfold ended at h
  simpa using (List.mem_filter.1 h).1
theorem ended_asc (l : List Dn) (k : Nat) : (ended l k).Pairwise (· < ·) := by
  unfold ended
  exact List.Pairwise.filter _ List.pairwise_lt_range
/-- places, as numbers below a bound -/
def finsOf (m : Nat) (r : List Nat) : Array (Fin (m + 1)) := (r.map fun i => Fin.ofNat (m + 1) i).toArray
theorem finsOf_size (m : Nat) (r : List Nat) : (finsOf m r).size = r.length := by simp [finsOf]
theorem finsOf_at {m : Nat} {r : List Nat} {j : Nat} (hj : j < r.length) : (finsOf m r)[j]! = Fin.ofNat (m + 1) r[j] := by
  rw [getElem!_pos _ j (by rw [finsOf_size]; exact hj)]
  simp [finsOf]
theorem finsOf_val {m : Nat} {r : List Nat} (h : ∀ i ∈ r, i < m + 1) {j : Nat} (hj : j < r.length) : ((finsOf m r)[j]!).val = r[j] := by
  rw [finsOf_at hj]
  exact Nat.mod_eq_of_lt (h _ (List.getElem_mem hj))
theorem finsOf_back {m : Nat} {r : List Nat} (h : ∀ i ∈ r, i < m + 1) : (finsOf m r).toList.map (·.val) = r := by
  simp only [finsOf, List.map_map]
  conv => rhs; rw [← List.map_id r]
  exact List.map_congr_left fun i hi => Nat.mod_eq_of_lt (h i hi)
theorem ends_of_sorted {l : List Dn} {m : Nat} {d : Array (Fin (m + 1))} (hm : l.length = m + 1) (hp : PermIn 0 (ended l l.length).length (finsOf m (ended l l.length)) d)
    (hs : SortedIn (ltX (fun x : Fin (m + 1) => endOf l x.val) (fun x => x.val)) 0 (ended l l.length).length d) : IsEnds l (d.toList.map (·.val)) := by
  have hlt : ∀ i ∈ ended l l.length, i < m + 1 := fun i hi => by rw [← hm]; exact ended_lt hi
  have hsz : d.size = (ended l l.length).length := by rw [hp.1, finsOf_size]
  refine ⟨?_, ?_⟩
  · have h := hp.2.2
    rw [show d.extract 0 (ended l l.length).length = d by rw [← hsz]; simp, show (finsOf m (ended l l.length)).extract 0 (ended l l.length).length = finsOf m (ended l l.length) by conv => lhs; rw [← finsOf_size m (ended l l.length)]; simp] at h
    have h2 := h.map (·.val)
    rw [finsOf_back hlt] at h2
    exact h2
  · rw [List.pairwise_map, List.pairwise_iff_getElem]
    intro i j hi hj hij
    have h := hs i j (Nat.zero_le _) hij (by rw [← hsz]; simpa using hj)
    rw [getElem!_pos d i (by simpa using hi), getElem!_pos d j (by simpa using hj)] at h
    rw [Array.getElem_toList, Array.getElem_toList]
    exact h

set_option maxHeartbeats 4000000 in
set_option maxRecDepth 1000000 in
theorem byEnds_s (hb ho hc H : Nat) (l : List Dn) (hl : l.length = H) (hH : H ≤ 60) (w : World) (hA : HistAt w hb ho l) (hlt : hb < w.heap.size) :
    Calls Tryz.prog 11 #[.slice (some ⟨hb, ho, none⟩) H hc] w fun e w' => ∃ v, e = .returned v ∧ Below w.heap.size w w' ∧ ∃ r, IsEnds l r ∧ RowOf w' v r := by
  obtain ⟨i0, hi, hz0, hz1, hz2⟩ := info_parts infoInt
  have hmf : ∀ (fn : Fn) (first cap : Array Value) (w : World), (Instr.makeFunc fn first cap).run Tryz.prog w = .ok (.func fn first cap) w := fun _ _ _ _ => rfl
  have HA : Aside _ := hA
  have HL := Lib.hid hl
  clear hA hl
  go_enter Tryz.func11, Tryz.ntmps11
  go_wp2_with fail
  go_loopw [2, 7] (fun v i wr => ∃ k : Nat, k ≤ H ∧ i = .int .i64 k ∧ Aside (wr.ownsRow w.heap.size 3 1 v (ended l k).length ((ended l k).map natV)) ∧ Aside (Below w.heap.size w wr) ∧ Hid (ended l k = [] → v = .slice none 0 0)) (fun _ i _ => H - (RowKit.intOf i).toNat)
  case atStart => exact ⟨0, Nat.zero_le _, rfl, World.ownsRow_nil _ _ _ _, Below.refl _ _, Lib.hid fun _ => rfl⟩
  case round =>
    obtain ⟨k, hk, rfl, hown, hbel, hnil⟩ := hrel
    by_cases hlt2 : k < H
    · obtain ⟨x, hx⟩ : ∃ x, l[k]? = some x := ⟨l[k]'(by rw [HL.out]; exact hlt2), List.getElem?_eq_getElem _⟩
      have hat := (HA.out k x hx).below hlt hbel.out
      have c0 := hat.c0
      have c1 := hat.c1
      have c2 := hat.c2
      have c3 := hat.c3
      have c4 := hat.c4
      have c5 := hat.c5
      have c6 := hat.c6
      have c7 := hat.c7
      have HX := Lib.hid hx
      clear hat hx
      by_cases he : 0 ≤ x.e
      · have hlen := ended_len l k
        go_wp2_with (at_builtin; refine wpList_append_own _ rfl (.tmp 15) (.tmp 17) 34 rfl w.heap.size 3 i0 (.int .i64 0) 1 8 Tryz.underlying34 hi hz0 hz1 hz2 rfl (by decide) _ _ _ rfl ((hown.out.alloc _).alloc _) ⟨wr.heap.size + 1, 0, none⟩ 1 1 [.int .i64 (k : Int)] rfl rfl ?g1 ?g2 ?g3 ?g4 ?g5 ?_)
        case g1 =>
          intro j u hj
          rcases j with _ | j
          · simp at hj
            subst hj
            exact World.cell?_alloc_at _ _ _ _ (by simp)
          · simp at hj
        case g2 => intro u hu; simp at hu; subst hu; rfl
        case g3 => unfold maxLen; omega
        case g4 => omega
        case g5 => have := hbel.out.size; simp; omega
        intro v' w1 hown' hgrow hn'
        have HB : Aside _ := ((hbel.out.alloc (by exact hbel.out.size) _).alloc (by have := hbel.out.size; simp; omega) _).grown hgrow (by have := hbel.out.size; simp; omega) (fun q hq => (hown.out.lt q hq).1)
        have e1 := ended_yes HX.out he
        have HO : Aside (w1.ownsRow w.heap.size 3 1 v' (ended l (k + 1)).length ((ended l (k + 1)).map natV)) := by
          rw [e1, List.length_append, List.map_append]
          exact hown'
        have HN : Hid (ended l (k + 1) = [] → v' = .slice none 0 0) := Lib.hid fun h => by rw [e1] at h; simp at h
        clear e1 hown' hgrow hn' hown hbel hnil
        go_wp2_with fail
        go_roundw
        case rel => exact ⟨k + 1, by omega, by go_num, HO, HB, HN⟩
        case measure => simp [RowKit.intOf]; omega
      · have hez : ¬ (0 : Int) ≤ x.e := he
        have e1 := ended_no HX.out he
        have HB : Aside _ := hbel.out.alloc (by exact hbel.out.size) (.cells #[.int .i64 x.q, .int .i64 x.t, .int .i64 x.b, .int .i64 x.e, .int .u64 x.m, .int .i64 x.c, .int .i64 x.v, .string x.s] 31)
        have HE := Lib.hid e1
        clear e1
        go_wp2_with fail
        go_roundw
        case rel => exact ⟨k + 1, by omega, by go_num, by rw [HE.out]; exact hown.out.alloc _, HB, by rw [HE.out]; exact hnil⟩
        case measure => simp [RowKit.intOf]; omega
    · obtain rfl : k = H := by omega
      by_cases hz : ended l k = []
      · have hv := hnil.out hz
        subst hv
        go_wp2_with (go_at_call 23; refine (sortStable_nil _ _).mono ?_; rintro e w' ⟨rfl, rfl⟩)
        go_ret
        exact ⟨_, rfl, hbel.out, [], ⟨by rw [HL.out, hz], List.Pairwise.nil⟩, Or.inl ⟨rfl, rfl⟩⟩
      · have hpos : 0 < (ended l k).length := List.length_pos_iff.2 hz
        obtain ⟨g, cap, hv, hg1, hg2⟩ := row_some hown.out hpos
        subst hv
        obtain ⟨m, hm⟩ : ∃ m, k = m + 1 := ⟨k - 1, by
          have : k ≠ 0 := fun h0 => hz (by rw [h0]; rfl)
          omega⟩
        subst hm
        have hlt' : ∀ i ∈ ended l (m + 1), i < m + 1 := fun i hi => ended_lt hi
        have hE : Ends wr hb ho (m + 1) (endOf l) := fun x hx => by
          have hx' : l[x]? = some (l[x]'(by rw [HL.out]; exact hx)) := List.getElem?_eq_getElem _
          have h := ((HA.out x _ hx').below hlt hbel.out).c3
          unfold endOf
          rw [hx']
          exact h
        have hH' : Holds encF wr g 0 (finsOf m (ended l (m + 1))) := fun j hj => by
          rw [finsOf_size] at hj
          refine ⟨?_, ?_⟩
          · rw [Nat.zero_add, hown.out.cellAt j (by omega), List.getElem?_map, List.getElem?_eq_getElem hj]
            unfold encF
            rw [finsOf_val hlt' hj]
            rfl
          · rw [Nat.zero_add]
            exact hown.out.frozenAt j
        have hasc : Asc (fun x : Fin (m + 1) => x.val) (finsOf m (ended l (m + 1))) 0 (ended l (m + 1)).length := fun i j _ hij hj => by
          show ((finsOf m (ended l (m + 1)))[i]!).val < ((finsOf m (ended l (m + 1)))[j]!).val
          rw [finsOf_val hlt' (by omega), finsOf_val hlt' hj]
          exact List.pairwise_iff_getElem.1 (ended_asc l (m + 1)) i j (by omega) hj hij
        have hlen := ended_len l (m + 1)
        have hst := sortStable_s m hb ho hc g 0 cap (ended l (m + 1)).length (by omega) (endOf l) (finsOf m (ended l (m + 1))) wr hE (Nat.lt_of_lt_of_le hlt hbel.out.size) (by omega) hH' hg2 (Lib.hid (finsOf_size _ _)) (by omega) hasc
        have HS := Lib.hid hst
        have HASC := Lib.hid hasc
        have HHOLD : Aside _ := hH'
        clear hst hasc hH' hE hz
        rw [show (((m + 1 : Nat)) : Int) = (m : Int) + 1 by omega]
        go_wp2_with (go_at_call 23; refine HS.out.mono ?_; rintro e w2 ⟨rfl, d', p1, p2, S⟩; refine Hid.out ?_)
        refine Lib.hid ?_
        have P1 := Lib.hid p1
        have P2 := Lib.hid p2
        have P3 : Aside _ := S
        clear p1 p2 S
        go_wp2_with fail
        go_ret
        refine ⟨_, rfl, ?_, d'.toList.map (·.val), ?_, ?_⟩
        · exact hbel.out.trans (sw_below P3.out hg2 hg1)
        · have e := HL.out
          exact ends_of_sorted e (by rw [e]; exact P1.out) (by rw [e]; exact P2.out)
        · right
          have hsz : d'.size = (ended l (m + 1)).length := by rw [P1.out.1, finsOf_size]
          refine ⟨g, cap, ?_, ?_, ?_⟩
          · have e : (ended l (m + 1)).length = (d'.toList.map (·.val)).length := by rw [List.length_map]; exact hsz.symm
            rw [← e]
            rfl
          · exact Nat.lt_of_lt_of_le hg2 (sw_below P3.out hg2 hg1).size
          · intro j x hjx
            rw [List.getElem?_map] at hjx
            cases hd : d'.toList[j]? with
            | none => rw [hd] at hjx; simp at hjx
            | some y =>
              rw [hd] at hjx
              simp at hjx
              have hjl : j < d'.size := by simpa using (List.getElem?_eq_some_iff.1 hd).1
              have h := SW.c1 (d0 := finsOf m (ended l (m + 1))) (show SW encF wr g 0 d' w2 from P3.out) ⟨encF_one, HHOLD.out, hg2⟩ (by rw [finsOf_size, hsz]) j hjl
              rw [Nat.zero_add] at h
              rw [h, getElem!_pos d' j hjl]
              have e : d'[j] = y := by
                have := (List.getElem?_eq_some_iff.1 hd).2
                simpa using this
              rw [e, ← hjx]
              rfl
end Go.Proofs.YtcibmhncdgoemaaGreatDoor
namespace Go.Proofs.YtcibmhncdgoemaaGreatDoor
open Go Go.Shelf Go.RowKit Go.Lib Go.Sort

/-- a call that was done, as a value -/
def Dn.val (x : Dn) : Value := .agg #[.int .i64 x.q, .int .i64 x.t, .int .i64 x.b, .int .i64 x.e, .int .u64 x.m, .int .i64 x.c, .int .i64 x.v, .string x.s]
/-- does one stand ahead of another one? -/
def aheadB (x y : Dn) : Bool := decide (0 ≤ x.e) && decide (x.e < y.b)

set_option maxHeartbeats 1000000 in
theorem ahead_s (x y : Dn) (w : World) : Calls Tryz.prog 13 #[x.val, y.val] w fun e w' => e = .returned (.bool (aheadB x y)) ∧ Below w.heap.size w w' := by
  unfold aheadB Dn.val
  by_cases h1 : 0 ≤ x.e
  · by_cases h2 : x.e < y.b
    · go_enter Tryz.func13, Tryz.ntmps13
      go_wp2
      go_ret
      exact ⟨by simp [h1, h2], ((Below.refl _ _).alloc (Nat.le_refl _) _).alloc (by simp) _⟩
    · go_enter Tryz.func13, Tryz.ntmps13
      go_wp2
      go_ret
      exact ⟨by simp [h1, h2], ((Below.refl _ _).alloc (Nat.le_refl _) _).alloc (by simp) _⟩
  · go_enter Tryz.func13, Tryz.ntmps13
    go_wp2
    go_ret
    exact ⟨by simp; omega, ((Below.refl _ _).alloc (Nat.le_refl _) _).alloc (by simp) _⟩
set_option maxHeartbeats 1000000 in
theorem rahead_s (x y : Dn) (w : World) : Calls Tryz.prog 14 #[x.val, y.val] w fun e w' => e = .returned (.bool (aheadB x y)) ∧ Below w.heap.size w w' := by
  unfold aheadB Dn.val
  by_cases h1 : 0 ≤ x.e
  · by_cases h2 : x.e < y.b
    · go_enter Tryz.func14, Tryz.ntmps14
      go_wp2
      go_ret
      exact ⟨by simp [h1, h2], ((Below.refl _ _).alloc (Nat.le_refl _) _).alloc (by simp) _⟩
    · go_enter Tryz.func14, Tryz.ntmps14
      go_wp2
      go_ret
      exact ⟨by simp [h1, h2], ((Below.refl _ _).alloc (Nat.le_refl _) _).alloc (by simp) _⟩
  · go_enter Tryz.func14, Tryz.ntmps14
    go_wp2
    go_ret
    exact ⟨by simp; omega, ((Below.refl _ _).alloc (Nat.le_refl _) _).alloc (by simp) _⟩

set_option maxHeartbeats 2000000 in
set_option maxRecDepth 100000 in
/-- two slices that read the same places are the same -/
theorem sameInts_s (v1 v2 : Value) (r : List Nat) (hr : r.length < 1000) (w : World) (h1 : RowOf w v1 r) (h2 : RowOf w v2 r) :
    Calls Tryz.prog 10 #[v1, v2] w fun e w' => e = .returned (.bool true) ∧ ∃ q, w' = w.drewN q := by
  by_cases hz : r = []
  · subst hz
    have hn : ∀ v, RowOf w v [] → ∃ a cap, v = .slice a 0 cap := fun v h => by
      rcases h with ⟨rfl, _⟩ | ⟨b, c, rfl, _⟩
      · exact ⟨_, _, rfl⟩
      · exact ⟨_, _, rfl⟩
    obtain ⟨a1, p1, rfl⟩ := hn v1 h1
    obtain ⟨a2, p2, rfl⟩ := hn v2 h2
    clear h1 h2 hn
    go_enter Tryz.func10, Tryz.ntmps10
    go_wp2
    refine wp_loop_rounds 1 ?_
    rw [rounds_succ]
    go_wp2
    go_ret
    exact ⟨rfl, 0, by rw [World.drewN_zero]⟩
  · have hs : ∀ v, RowOf w v r → ∃ b cap, v = .slice (some ⟨b, 0, none⟩) r.length cap ∧ ∀ (j x : Nat), r[j]? = some x → w.cell? ⟨b, j, none⟩ = some (natV x) := fun v h => by
      rcases h with ⟨_, h⟩ | ⟨b, c, h1, _, h2⟩
      · exact absurd h hz
      · exact ⟨b, c, h1, h2⟩
    obtain ⟨b1, p1, rfl, g1⟩ := hs v1 h1
    obtain ⟨b2, p2, rfl, g2⟩ := hs v2 h2
    have G1 : Aside _ := g1
    have G2 : Aside _ := g2
    clear h1 h2 hs g1 g2 hz
    obtain ⟨n, hn⟩ : ∃ n, n = r.length := ⟨_, rfl⟩
    rw [← hn] at hr ⊢
    have HN := Lib.hid hn
    clear hn
    go_enter Tryz.func10, Tryz.ntmps10
    go_wp2_with fail
    go_loopw [5] (fun i wr => ∃ k : Nat, k ≤ n ∧ i = .int .i64 k ∧ ∃ q, wr = w.drewN q) (fun i _ => n - (RowKit.intOf i).toNat)
    case atStart => exact ⟨0, Nat.zero_le _, rfl, 0, by rw [World.drewN_zero]⟩
    case round =>
      obtain ⟨k, hk, rfl, q, rfl⟩ := hrel
      by_cases hlt : k < n
      · have hx : r[k]? = some (r[k]'(by rw [← HN.out]; exact hlt)) := List.getElem?_eq_getElem _
        have c1 := G1.out k _ hx
        have c2 := G2.out k _ hx
        unfold natV at c1 c2
        generalize r[k]'(by rw [← HN.out]; exact hlt) = x at c1 c2
        clear hx
        have b1 : (k : Int) < (n : Int) := by omega
        have b0 : (0 : Int) ≤ (k : Int) := by omega
        go_wp2_with fail
        go_quiet (fail)
        go_wp2_with fail
        go_roundw
        case rel => exact ⟨k + 1, by omega, by go_num, _, rfl⟩
        case measure => simp [RowKit.intOf]; omega
      · have b1 : ¬ (k : Int) < (n : Int) := by omega
        go_wp2_with fail
        go_ret
        exact ⟨rfl, q, rfl⟩

/-- a request -/
structure Rq where
  t : Int
  d : Int
  s : ByteArray
/-- requests lie in a block from a place on -/
def ReqAt (w : World) (rb ro : Nat) (l : List Rq) : Prop := ∀ k x, l[k]? = some x → w.cell? ⟨rb, ro + k * 3, none⟩ = some (.int .i64 x.t) ∧ w.cell? ⟨rb, ro + k * 3 + 2, none⟩ = some (.string x.s)
/-- are requests short? -/
def shortB (l : List Rq) : Bool := l.all fun x => decide (x.s.size ≤ 400)
theorem shortB_no {l : List Rq} {k : Nat} {x : Rq} (h : l[k]? = some x) (hs : ¬ x.s.size ≤ 400) : shortB l = false := by
  unfold shortB
  rw [List.all_eq_false]
  exact ⟨x, List.mem_of_getElem? h, by simpa using hs⟩

set_option maxHeartbeats 2000000 in
set_option maxRecDepth 100000 in
theorem short_s (rb ro rc n : Nat) (l : List Rq) (hl : l.length = n) (hn : n < 1000) (w : World) (hA : ReqAt w rb ro l) (hsz : ∀ x ∈ l, x.s.size ≤ 9223372036854775807) :
    Calls Tryz.prog 6 #[.slice (some ⟨rb, ro, none⟩) n rc] w fun e w' => e = .returned (.bool (shortB l)) ∧ w' = w := by
  have HA : Aside _ := hA
  have HS : Aside _ := hsz
  have HL := Lib.hid hl
  clear hA hl hsz
  go_enter Tryz.func6, Tryz.ntmps6
  go_wp2_with fail
  go_loop [3] (fun i => ∃ k : Nat, k ≤ n ∧ i = .int .i64 k ∧ Hid (∀ j x, j < k → l[j]? = some x → x.s.size ≤ 400)) (fun i => n - (RowKit.intOf i).toNat)
  case atStart => exact ⟨0, Nat.zero_le _, rfl, Lib.hid fun j x h => by omega⟩
  case round =>
    obtain ⟨k, hk, rfl, HK⟩ := hrel
    by_cases hlt : k < n
    · obtain ⟨x, hx⟩ : ∃ x, l[k]? = some x := ⟨l[k]'(by rw [HL.out]; exact hlt), List.getElem?_eq_getElem _⟩
      have c2 := (HA.out k x hx).2
      have hxs := HS.out x (List.mem_of_getElem? hx)
      have HX := Lib.hid hx
      clear hx
      have b1 : (k : Int) < (n : Int) := by omega
      have b0 : (0 : Int) ≤ (k : Int) := by omega
      by_cases hs : x.s.size ≤ 400
      · have hz : ¬ (400 : Int) < (x.s.size : Int) := by omega
        go_wp2_with fail
        go_round
        case rel => exact ⟨k + 1, by omega, by go_num, Lib.hid fun j y hj hy => by
          by_cases e : j = k
          · subst e
            rw [HX.out] at hy
            cases hy
            exact hs
          · exact HK.out j y (by omega) hy⟩
        case measure => simp [RowKit.intOf]; omega
      · have hz : (400 : Int) < (x.s.size : Int) := by omega
        go_wp2_with fail
        go_ret
        exact ⟨by rw [shortB_no HX.out hs]; rfl, rfl⟩
    · have b1 : ¬ (k : Int) < (n : Int) := by omega
      go_wp2_with fail
      go_ret
      refine ⟨?_, rfl⟩
      have e : shortB l = true := by
        unfold shortB
        rw [List.all_eq_true]
        intro x hx
        obtain ⟨j, hj, rfl⟩ := List.mem_iff_getElem.1 hx
        have := HK.out j _ (by rw [HL.out] at hj; omega) (List.getElem?_eq_getElem hj)
        simpa using this
      rw [e]
      rfl
end Go.Proofs.YtcibmhncdgoemaaGreatDoor
namespace Go.Proofs.YtcibmhncdgoemaaGreatDoor
open Go Go.Shelf Go.RowKit Go.Lib Go.Sort

/-- places of the first k, sorted by their ends -/
structure InsOK (l : List Dn) (k : Nat) (r : List Nat) : Prop where
  perm : r.Perm (ended l k)
  sorted : r.Pairwise fun a b => ltX (endOf l) (fun i => i) b a = false
theorem InsOK.lt {l : List Dn} {k : Nat} {r : List Nat} (h : InsOK l k r) {y : Nat} (hy : y ∈ r) : y < k := ended_lt (h.perm.mem_iff.1 hy)
theorem InsOK.skip {l : List Dn} {k : Nat} {r : List Nat} (h : InsOK l k r) {x : Dn} (hx : l[k]? = some x) (he : ¬ 0 ≤ x.e) : InsOK l (k + 1) r := ⟨by rw [ended_no hx he]; exact h.perm, h.sorted⟩
theorem ins_ok {l : List Dn} {k a : Nat} {r : List Nat} {x : Dn} (h : InsOK l k r) (hx : l[k]? = some x) (he : 0 ≤ x.e) (ha : a ≤ r.length)
    (h1 : ∀ j y, a ≤ j → r[j]? = some y → x.e < endOf l y) (h2 : ∀ y, 0 < a → r[a - 1]? = some y → endOf l y ≤ x.e) : InsOK l (k + 1) (r.take a ++ [k] ++ r.drop a) := by
  have hk : endOf l k = x.e := by unfold endOf; rw [hx]
  refine ⟨?_, ?_⟩
  · rw [ended_yes hx he]
    have e : (r.take a ++ [k] ++ r.drop a).Perm (r ++ [k]) := by
      have e1 : (r.take a ++ [k] ++ r.drop a).Perm (r.take a ++ (r.drop a ++ [k])) := by
        rw [List.append_assoc]
        exact List.Perm.append_left _ List.perm_append_comm
      rw [← List.append_assoc, List.take_append_drop] at e1
      exact e1
    exact e.trans (h.perm.append_right _)
  · have hs := h.sorted
    have hlow : ∀ y ∈ r.take a, endOf l y ≤ x.e := by
      intro y hy
      obtain ⟨i, hi, rfl⟩ := List.mem_iff_getElem.1 hy
      have hi' : i < a := by rw [List.length_take] at hi; omega
      have hir : i < r.length := by omega
      have z := h2 _ (by omega) (List.getElem?_eq_getElem (show a - 1 < r.length by omega))
      rw [List.getElem_take]
      by_cases c : i = a - 1
      · subst c; exact z
      · have p := List.pairwise_iff_getElem.1 hs i (a - 1) hir (by omega) (by omega)
        simp only [ltX, decide_eq_false_iff_not] at p
        omega
    have hhigh : ∀ y ∈ r.drop a, x.e < endOf l y := by
      intro y hy
      obtain ⟨i, hi, rfl⟩ := List.mem_iff_getElem.1 hy
      have hi' : a + i < r.length := by rw [List.length_drop] at hi; omega
      rw [List.getElem_drop]
      exact h1 (a + i) _ (by omega) (List.getElem?_eq_getElem hi')
    have hp := hs
    rw [← List.take_append_drop a r, List.pairwise_append] at hp
    rw [List.append_assoc, List.pairwise_append]
    refine ⟨hp.1, ?_, ?_⟩
    · rw [List.singleton_append, List.pairwise_cons]
      refine ⟨fun y hy => ?_, hp.2.1⟩
      have := hhigh y hy
      simp only [ltX, decide_eq_false_iff_not, hk]
      omega
    · intro y hy z hz
      rw [List.singleton_append, List.mem_cons] at hz
      rcases hz with rfl | hz
      · have := hlow y hy
        have hyk := h.lt (List.mem_of_mem_take hy)
        simp only [ltX, decide_eq_false_iff_not, hk]
        omega
      · exact hp.2.2 y hy z hz

/-- an append, at a step of a region that draws its order -/
theorem step_append {ops : Array Oper} {o : Oper} {a : Act} {w : World} {K : Act → World → Prop} {Q : Exit → Act → World → Prop} {E : Prop} (hg : o.guard = none) (h : o.wp Tryz.prog a w K Q) :
    if Region.wanted o (yielded ops a.tmps) = true then Oper.wp Tryz.prog o a w K Q else E := by
  rw [if_pos (by unfold Region.wanted; rw [hg])]
  exact h
theorem wp_append_nothing {w : World} {o : Oper} {a : Act} {K : Act → World → Prop} {Q : Exit → Act → World → Prop} (s x : Operand)
    (ho : o.op = .call { callee := .builtin .append, args := #[s, x], argTypes := #[34, 34] }) (base n : Nat) (v : Value) (xs : List Value) (hs : a.eval s = v) (hown : w.ownsRow base 3 1 v n xs) (hx : a.eval x = .slice none 0 0)
    (h : K (a.put o.dst v) w) : o.wp Tryz.prog a w K Q := by
  obtain ⟨i0, hi, _, hz1, _⟩ := info_parts infoInt
  have hrun := run_append_owned_none (P := Tryz.prog) (w := w) base 34 o.type 3 i0 1 Tryz.underlying34 hi v n xs hown
  unfold Oper.wp
  simp [execOp, ho, resolve, invoke, builtin, hs, hx, hrun, Result.andThen]
  exact h
theorem below_drewN {B : Nat} {a w : World} (h : Below B a w) (n : Nat) : Below B a (w.drewN n) := ⟨h.os, h.tape, h.output, h.size, h.block⟩
theorem own_mono {w : World} {B B' n : Nat} {v : Value} {xs : List Value} (h : w.ownsRow B 3 1 v n xs) (hB : B' ≤ B) : w.ownsRow B' 3 1 v n xs := by
  refine ⟨h.1, ?_⟩
  rcases h.2 with h2 | ⟨g, cap, cur, h1, h2, h3⟩
  · exact Or.inl h2
  · exact Or.inr ⟨g, cap, cur, h1, by omega, h3⟩
/-- what an append of integers leaves -/
structure Appended (base : Nat) (w w' : World) (v v' : Value) (n : Nat) (xs : List Value) : Prop where
  own : w'.ownsRow base 3 1 v' n xs
  grow : w.grownBy w' v.ownBlock
theorem wp_append_ints {w : World} {o : Oper} {a : Act} {K : Act → World → Prop} {Q : Exit → Act → World → Prop} (s x : Operand)
    (ho : o.op = .call { callee := .builtin .append, args := #[s, x], argTypes := #[34, 34] }) (base n : Nat) (v : Value) (xs : List Value) (hs : a.eval s = v) (hown : w.ownsRow base 3 1 v n xs)
    (ad : Addr) (m c : Nat) (news : List Value) (hx : a.eval x = .slice (some ad) m c) (hl : news.length = m) (hnews : ∀ j u, news[j]? = some u → w.cell? (ad.add j) = some u) (h1 : ∀ u ∈ news, u.oneCell' = true)
    (hb : n + m ≤ 1000) (hbase : base ≤ w.heap.size) (h : ∀ v' w', Appended base w w' v v' (n + m) (xs ++ news) → K (a.put o.dst v') w') : o.wp Tryz.prog a w K Q := by
  obtain ⟨i0, hi, hz0, hz1, hz2⟩ := info_parts infoInt
  exact wp_append_own w s x 34 ho base 3 i0 (.int .i64 0) 1 8 Tryz.underlying34 hi hz0 hz1 hz2 rfl (by decide) v n xs hs hown ad m c news hx (by rw [hl, Nat.mul_one]) hnews h1 (by unfold maxLen; omega) (by omega) hbase fun v' w' a b _ => h v' w' ⟨a, b⟩

set_option maxHeartbeats 4000000 in
set_option maxRecDepth 1000000 in
theorem rbyEnds_s (hb ho hc H : Nat) (l : List Dn) (hl : l.length = H) (hH : H ≤ 60) (w : World) (hA : HistAt w hb ho l) (hlt : hb < w.heap.size) :
    Calls Tryz.prog 12 #[.slice (some ⟨hb, ho, none⟩) H hc] w fun e w' => ∃ v, e = .returned v ∧ Below w.heap.size w w' ∧ ∃ r, IsEnds l r ∧ RowOf w' v r := by
  obtain ⟨i0, hi, hz0, hz1, hz2⟩ := info_parts infoInt
  have HA : Aside _ := hA
  have HL := Lib.hid hl
  clear hA hl
  go_enter Tryz.func12, Tryz.ntmps12
  go_wp2_with fail
  go_loopw [3, 4] (fun v i wr => ∃ (k : Nat) (r : List Nat), k ≤ H ∧ i = .int .i64 k ∧ Aside (InsOK l k r) ∧ Aside (wr.ownsRow w.heap.size 3 1 v r.length (r.map natV)) ∧ Aside (Below w.heap.size w wr) ∧ Hid (r = [] → v = .slice none 0 0)) (fun _ i _ => H - (RowKit.intOf i).toNat)
  case atStart => exact ⟨0, [], Nat.zero_le _, rfl, ⟨by rw [ended_zero], List.Pairwise.nil⟩, World.ownsRow_nil _ _ _ _, Below.refl _ _, Lib.hid fun _ => rfl⟩
  case round =>
    obtain ⟨k, r, hk, rfl, IN, hown, hbel, hnil⟩ := hrel
    by_cases hlt2 : k < H
    · obtain ⟨x, hx⟩ : ∃ x, l[k]? = some x := ⟨l[k]'(by rw [HL.out]; exact hlt2), List.getElem?_eq_getElem _⟩
      have c3 := ((HA.out k x hx).below hlt hbel.out).c3
      have HX := Lib.hid hx
      clear hx
      have b1 : (k : Int) < (H : Int) := by omega
      have b0 : (0 : Int) ≤ (k : Int) := by omega
      by_cases he : 0 ≤ x.e
      · have hez : ¬ x.e < 0 := by omega
        by_cases hr : r = []
        · have hv := hnil.out hr
          subst hr hv
          go_wp2_with fail
          refine wp_loop_rounds 1 ?_
          rw [rounds_succ]
          go_wp2_with fail
          go_quiet (fail)
          go_wp2_with fail
          go_region_law (first
            | (refine step_append rfl (wp_append_nothing (.const (.slice none 0 0)) (.tmp 43) rfl 0 0 (.slice none 0 0) [] (by simp [Act.eval, Act.put]) (World.ownsRow_nil _ _ _ _) (by simp [Act.eval, Act.put]) ?_))
            | (refine step_append rfl (wp_append_ints (.tmp 44) (.tmp 46) rfl wr.heap.size 0 (.slice none 0 0) [] (by simp [Act.eval, Act.put]) (World.ownsRow_nil _ _ _ _) ⟨wr.heap.size, 0, none⟩ 1 1 [.int .i64 (k : Int)] (by simp [Act.eval, Act.put]) rfl (by intro j u hj; rcases j with _ | j <;> simp at hj; subst hj; exact World.cell?_alloc_at _ _ _ _ rfl) (by intro u hu; simp at hu; subst hu; rfl) (by omega) (by simp) ?_); intro v1 w1 AP1)
            | (refine step_append rfl (wp_append_nothing (.tmp 47) (.tmp 50) rfl wr.heap.size _ _ _ (by simp [Act.eval, Act.put]) AP1.own (by simp [Act.eval, Act.put]) ?_)))
          all_goals
            have HO : Aside (w1.ownsRow w.heap.size 3 1 v1 [k].length ([k].map natV)) := own_mono AP1.own hbel.out.size
            have HB : Aside (Below w.heap.size w w1) := ((below_drewN hbel.out _).alloc hbel.out.size _).grown AP1.grow (by have := hbel.out.size; simp; omega) (fun q hq => by cases hq)
            have HI : Aside (InsOK l (k + 1) [k]) := ins_ok (a := 0) IN.out HX.out he (Nat.zero_le _) (fun j y _ h => by simp at h) (fun y h => by omega)
            clear AP1 hown hbel IN hnil
            go_wp2_with fail
            go_roundw
            case rel => exact ⟨k + 1, [k], by omega, by go_num, HI, HO, HB, Lib.hid fun h => by simp at h⟩
            case measure => simp [RowKit.intOf]; omega
        · obtain ⟨g, cap, hv, hg1, hg2⟩ := row_some hown.out (List.length_pos_iff.2 hr)
          subst hv
          obtain ⟨n, hn⟩ : ∃ n, n = r.length := ⟨_, rfl⟩
          rw [← hn] at hown ⊢
          have hnk : n ≤ k := by
            rw [hn, IN.out.perm.length_eq]
            exact ended_len l k
          have hn0 : 0 < n := by rw [hn]; exact List.length_pos_iff.2 hr
          have HN := Lib.hid hn
          clear hn hr hnil
          have hcap : n ≤ cap := by
            rcases hown.out.2 with ⟨h, _⟩ | ⟨g', cap', cur, h, _, _, h2, _⟩
            · cases h
            · cases h; exact h2
          go_wp2_with fail
          go_loopw [5] (fun at_ wr2 => ∃ a : Nat, a ≤ n ∧ at_ = .int .i64 a ∧ (∃ q, wr2 = wr.drewN q) ∧ Hid (∀ j y, a ≤ j → r[j]? = some y → x.e < endOf l y)) (fun at_ _ => (RowKit.intOf at_).toNat)
          case atStart => exact ⟨n, Nat.le_refl _, rfl, ⟨0, by rw [World.drewN_zero]⟩, Lib.hid fun j y hj hy => by
            have := (List.getElem?_eq_some_iff.1 hy).1
            rw [HN.out] at hj
            omega⟩
          case round =>
            obtain ⟨a, han, rfl, ⟨q, rfl⟩, HA2⟩ := hrel
            have HOUT : Hid ((∀ y, 0 < a → r[a - 1]? = some y → endOf l y ≤ x.e) → InsOK l (k + 1) (r.take a ++ [k] ++ r.drop a)) := Lib.hid fun h2 => ins_ok IN.out HX.out he (by rw [← HN.out]; exact han) HA2.out h2
            by_cases ha : 0 < a
            · obtain ⟨ap, hap⟩ : ∃ p, p + 1 = a := ⟨a - 1, by omega⟩
              subst hap
              obtain ⟨y, hy⟩ : ∃ y, r[ap]? = some y := ⟨r[ap]'(by rw [← HN.out]; omega), List.getElem?_eq_getElem _⟩
              have hyk := IN.out.lt (List.mem_of_getElem? hy)
              have hy' : l[y]? = some (l[y]'(by rw [HL.out]; omega)) := List.getElem?_eq_getElem _
              have d1 : wr.cell? ⟨g, ap, none⟩ = some (.int .i64 (y : Int)) := by
                rw [hown.out.cellAt ap (by omega), List.getElem?_map, hy]
                rfl
              have d2 : wr.cell? ⟨hb, ho + y * 8 + 3, none⟩ = some (.int .i64 (endOf l y)) := by
                have h := ((HA.out y _ hy').below hlt hbel.out).c3
                unfold endOf
                rw [hy']
                exact h
              have HY := Lib.hid hy
              clear hy hy'
              have zk : ((ap + 1 : Nat) : Int) = (ap : Int) + 1 := by omega
              have q1 : decide ((ap : Int) + 1 > 0) = true := decide_eq_true (by omega)
              have q2 : IntKind.i64.wrap ((ap : Int) + 1 - 1) = (ap : Int) := by rw [IntKind.wrap_i64]; omega
              have q3 : (ap : Int) + 1 - 1 = (ap : Int) := by omega
              have p0 : (0 : Int) ≤ (ap : Int) := by omega
              have p1 : (ap : Int) < (n : Int) := by omega
              have p2 : (0 : Int) ≤ (y : Int) := by omega
              have p3 : (y : Int) < (H : Int) := by omega
              by_cases hc : x.e < endOf l y
              · have hcd : decide (endOf l y > x.e) = true := decide_eq_true hc
                go_wp2_with fail
                go_quiet (fail)
                go_wp2_with fail
                go_roundw
                case rel => exact ⟨ap, by omega, by first | rfl | (congr 1; omega), ⟨_, rfl⟩, Lib.hid fun j z hj hz => by
                  by_cases e : j = ap
                  · subst e
                    rw [HY.out] at hz
                    cases hz
                    exact hc
                  · exact HA2.out j z (by omega) hz⟩
                case measure => simp [RowKit.intOf]
              · have hcd : decide (endOf l y > x.e) = false := decide_eq_false hc
                have HI : Aside _ := HOUT.out fun z _ hz => by
                  rw [Nat.add_sub_cancel, HY.out] at hz
                  cases hz
                  omega
                go_wp2_with fail
                go_quiet (fail)
                clear HOUT d1 d2 q1 q2 q3 hcd HA2 p0 p1
                go_wp2_with fail
                obtain ⟨a, hae⟩ : ∃ a, a = ap + 1 := ⟨_, rfl⟩
                rw [show (ap : Int) + 1 = (a : Int) by omega]
                rw [← hae] at han HI
                clear hae zk ha
                have HW0 : Aside (((wr.drewN q).drewN nq).ownsRow w.heap.size 3 1 (.slice (some ⟨g, 0, none⟩) n cap) n (r.map natV)) := by rw [HN.out]; rw [HN.out] at hown; exact hown.out
                have HW1 : Aside (Below w.heap.size w ((wr.drewN q).drewN nq)) := below_drewN (below_drewN hbel.out q) nq
                have HW2 : g < ((wr.drewN q).drewN nq).heap.size := hg2
                clear hown hbel hg2
                generalize (wr.drewN q).drewN nq = W at HW0 HW1 HW2 ⊢
                have hcell : ∀ (W' : World), Below W.heap.size W W' → ∀ j u, (r.map natV)[j]? = some u → W'.cell? ⟨g, j, none⟩ = some u := fun W' hb j u hu => by
                  rw [hb.cell (p := ⟨g, j, none⟩) HW2, HW0.out.cellAt j (by have := (List.getElem?_eq_some_iff.1 hu).1; rw [List.length_map, ← HN.out] at this; omega)]
                  exact hu
                have N1 : Hid (∀ (W' : World), Below W.heap.size W W' → ∀ j u, ((r.take a).map natV)[j]? = some u → W'.cell? ((⟨g, 0, none⟩ : Addr).add j) = some u) := Lib.hid fun W' hb j u hu => by
                  have hj : j < a := by
                    have := (List.getElem?_eq_some_iff.1 hu).1
                    rw [List.length_map, List.length_take] at this
                    omega
                  rw [Lib.add_plain, Nat.zero_add]
                  refine hcell W' hb j u ?_
                  rw [List.getElem?_map, List.getElem?_take, if_pos hj, ← List.getElem?_map] at hu
                  exact hu
                obtain ⟨A, hA, N3⟩ : ∃ A : Addr, (if cap = a then some (⟨g, 0, none⟩ : Addr) else some ⟨g, a, none⟩) = some A ∧ Hid (∀ (W' : World), Below W.heap.size W W' → ∀ j u, ((r.drop a).map natV)[j]? = some u → W'.cell? (A.add j) = some u) := by
                  by_cases h : cap = a
                  · refine ⟨⟨g, 0, none⟩, by rw [if_pos h], Lib.hid fun W' hb j u hu => ?_⟩
                    have hz : r.drop a = [] := List.drop_eq_nil_iff.2 (by rw [← HN.out]; omega)
                    rw [hz] at hu
                    simp at hu
                  · refine ⟨⟨g, a, none⟩, by rw [if_neg h], Lib.hid fun W' hb j u hu => ?_⟩
                    rw [Lib.add_plain]
                    refine hcell W' hb (a + j) u ?_
                    rw [List.getElem?_map, List.getElem?_drop, ← List.getElem?_map] at hu
                    exact hu
                have L1 := Lib.hid (show ((r.take a).map natV).length = a by rw [List.length_map, List.length_take, ← HN.out]; omega)
                have L3 := Lib.hid (show ((r.drop a).map natV).length = n - a by rw [List.length_map, List.length_drop, ← HN.out])
                have O1 : ∀ (l : List Nat), Hid (∀ u ∈ l.map natV, u.oneCell' = true) := fun l => Lib.hid fun u hu => by
                  obtain ⟨z, _, rfl⟩ := List.mem_map.1 hu
                  rfl
                have OO : Aside _ := O1
                clear hcell O1
                have s0 : (0 : Int) ≤ (a : Int) := by omega
                have s1 : (a : Int) ≤ (n : Int) := by omega
                have s2 : (a : Int) ≤ (cap : Int) := by omega
                have hn60 : n < 100 := by omega
                go_region_law (first
                  | (refine step_append rfl (wp_append_ints (.const (.slice none 0 0)) (.tmp 43) rfl W.heap.size 0 (.slice none 0 0) [] (by simp [Act.eval, Act.put]) (World.ownsRow_nil _ _ _ _) ⟨g, 0, none⟩ a cap ((r.take a).map natV) (by simp [Act.eval, Act.put]) L1.out (N1.out _ (by first | exact (Below.refl _ _).drew | exact ((Below.refl _ _).alloc (Nat.le_refl _) _).drew | exact ((Below.refl _ _).drew.alloc (Nat.le_refl _) _))) (OO.out _).out (by omega) (by simp) ?_); intro v1 w1 AP1; have BL1 : Below W.heap.size W w1 := (by first | exact (Below.refl _ _).drew.grown AP1.grow (by simp) (fun q hq => by cases hq) | exact ((Below.refl _ _).alloc (Nat.le_refl _) _).drew.grown AP1.grow (by simp) (fun q hq => by cases hq)))
                  | (refine step_append rfl (wp_append_ints (.tmp 44) (.tmp 46) rfl W.heap.size (0 + a) v1 _ (by simp [Act.eval, Act.put]) (AP1.own.alloc _) ⟨w1.heap.size, 0, none⟩ 1 1 [.int .i64 (k : Int)] (by simp [Act.eval, Act.put]) rfl (by intro j u hj; rcases j with _ | j <;> simp at hj; subst hj; exact World.cell?_alloc_at _ _ _ _ rfl) (by intro u hu; simp at hu; subst hu; rfl) (by omega) (by have := BL1.size; simp; omega) ?_); intro v2 w2 AP2; have BL2 : Below W.heap.size W w2 := (BL1.alloc BL1.size _).grown AP2.grow (by have := BL1.size; simp; omega) (fun q hq => (AP1.own.lt q hq).1))
                  | (refine step_append rfl (wp_append_ints (.tmp 44) (.tmp 46) rfl W.heap.size (0 + a) v1 _ (by simp [Act.eval, Act.put]) AP1.own ⟨W.heap.size, 0, none⟩ 1 1 [.int .i64 (k : Int)] (by simp [Act.eval, Act.put]) rfl (by intro j u hj; rcases j with _ | j <;> simp at hj; subst hj; have e := World.cell?_of_block (a := ⟨W.heap.size, 0, none⟩) (AP1.grow.block W.heap.size (by simp) (by simp [Value.ownBlock])); rw [Lib.add_plain, e]; exact World.cell?_alloc_at _ _ _ _ rfl) (by intro u hu; simp at hu; subst hu; rfl) (by omega) BL1.size ?_); intro v2 w2 AP2; have BL2 : Below W.heap.size W w2 := BL1.grown AP2.grow BL1.size (fun q hq => (AP1.own.lt q hq).1))
                  | (refine step_append rfl (wp_append_ints (.tmp 47) (.tmp 50) rfl W.heap.size (0 + a + 1) v2 _ (by simp [Act.eval, Act.put]) AP2.own A (n - a) (cap - a) ((r.drop a).map natV) (by simp [Act.eval, Act.put]) L3.out (N3.out _ BL2) (OO.out _).out (by omega) BL2.size ?_); intro v3 w3 AP3; have BL3 : Below W.heap.size W w3 := BL2.grown AP3.grow BL2.size (fun q hq => (AP2.own.lt q hq).1)))
                all_goals
                  have HB : Aside (Below w.heap.size w w3) := HW1.out.trans (BL3.mono HW1.out.size)
                  have HO : Aside (w3.ownsRow w.heap.size 3 1 v3 (r.take a ++ [k] ++ r.drop a).length ((r.take a ++ [k] ++ r.drop a).map natV)) := by
                    have e := own_mono AP3.own HW1.out.size
                    have e1 : (r.take a ++ [k] ++ r.drop a).length = 0 + a + 1 + (n - a) := by
                      have l1 := L1.out
                      have l3 := L3.out
                      rw [List.length_map] at l1 l3
                      simp only [List.length_append, l1, l3, List.length_cons, List.length_nil]
                      omega
                    rw [e1, List.map_append, List.map_append]
                    exact e
                  clear AP1 AP2 AP3 BL1 BL2 BL3 N1 N3 L1 L3 OO HW0 hA
                  go_wp2_with fail
                  go_roundw
                  case rel => exact ⟨k + 1, _, by omega, by go_num, HI, HO, HB, Lib.hid fun h => by simp at h⟩
                  case measure => simp [RowKit.intOf]; omega
            · have q1 : decide ((a : Int) > 0) = false := decide_eq_false (by omega)
              have HI : Aside _ := HOUT.out fun z h => absurd h ha
              go_wp2_with fail
              go_quiet (fail)
              clear HOUT HA2 q1 ha
              go_wp2_with fail
              have HW0 : Aside (((wr.drewN q).drewN nq).ownsRow w.heap.size 3 1 (.slice (some ⟨g, 0, none⟩) n cap) n (r.map natV)) := by rw [HN.out]; rw [HN.out] at hown; exact hown.out
              have HW1 : Aside (Below w.heap.size w ((wr.drewN q).drewN nq)) := below_drewN (below_drewN hbel.out q) nq
              have HW2 : g < ((wr.drewN q).drewN nq).heap.size := hg2
              clear hown hbel hg2
              generalize (wr.drewN q).drewN nq = W at HW0 HW1 HW2 ⊢
              have hcell : ∀ (W' : World), Below W.heap.size W W' → ∀ j u, (r.map natV)[j]? = some u → W'.cell? ⟨g, j, none⟩ = some u := fun W' hb j u hu => by
                rw [hb.cell (p := ⟨g, j, none⟩) HW2, HW0.out.cellAt j (by have := (List.getElem?_eq_some_iff.1 hu).1; rw [List.length_map, ← HN.out] at this; omega)]
                exact hu
              have N1 : Hid (∀ (W' : World), Below W.heap.size W W' → ∀ j u, ((r.take a).map natV)[j]? = some u → W'.cell? ((⟨g, 0, none⟩ : Addr).add j) = some u) := Lib.hid fun W' hb j u hu => by
                have hj : j < a := by
                  have := (List.getElem?_eq_some_iff.1 hu).1
                  rw [List.length_map, List.length_take] at this
                  omega
                rw [Lib.add_plain, Nat.zero_add]
                refine hcell W' hb j u ?_
                rw [List.getElem?_map, List.getElem?_take, if_pos hj, ← List.getElem?_map] at hu
                exact hu
              obtain ⟨A, hA, N3⟩ : ∃ A : Addr, (if cap = a then some (⟨g, 0, none⟩ : Addr) else some ⟨g, a, none⟩) = some A ∧ Hid (∀ (W' : World), Below W.heap.size W W' → ∀ j u, ((r.drop a).map natV)[j]? = some u → W'.cell? (A.add j) = some u) := by
                by_cases h : cap = a
                · refine ⟨⟨g, 0, none⟩, by rw [if_pos h], Lib.hid fun W' hb j u hu => ?_⟩
                  have hz : r.drop a = [] := List.drop_eq_nil_iff.2 (by rw [← HN.out]; omega)
                  rw [hz] at hu
                  simp at hu
                · refine ⟨⟨g, a, none⟩, by rw [if_neg h], Lib.hid fun W' hb j u hu => ?_⟩
                  rw [Lib.add_plain]
                  refine hcell W' hb (a + j) u ?_
                  rw [List.getElem?_map, List.getElem?_drop, ← List.getElem?_map] at hu
                  exact hu
              have L1 := Lib.hid (show ((r.take a).map natV).length = a by rw [List.length_map, List.length_take, ← HN.out]; omega)
              have L3 := Lib.hid (show ((r.drop a).map natV).length = n - a by rw [List.length_map, List.length_drop, ← HN.out])
              have O1 : ∀ (l : List Nat), Hid (∀ u ∈ l.map natV, u.oneCell' = true) := fun l => Lib.hid fun u hu => by
                obtain ⟨z, _, rfl⟩ := List.mem_map.1 hu
                rfl
              have OO : Aside _ := O1
              clear hcell O1
              have s0 : (0 : Int) ≤ (a : Int) := by omega
              have s1 : (a : Int) ≤ (n : Int) := by omega
              have s2 : (a : Int) ≤ (cap : Int) := by omega
              have hn60 : n < 100 := by omega
              go_region_law (first
                | (refine step_append rfl (wp_append_ints (.const (.slice none 0 0)) (.tmp 43) rfl W.heap.size 0 (.slice none 0 0) [] (by simp [Act.eval, Act.put]) (World.ownsRow_nil _ _ _ _) ⟨g, 0, none⟩ a cap ((r.take a).map natV) (by simp [Act.eval, Act.put]) L1.out (N1.out _ (by first | exact (Below.refl _ _).drew | exact ((Below.refl _ _).alloc (Nat.le_refl _) _).drew | exact ((Below.refl _ _).drew.alloc (Nat.le_refl _) _))) (OO.out _).out (by omega) (by simp) ?_); intro v1 w1 AP1; have BL1 : Below W.heap.size W w1 := (by first | exact (Below.refl _ _).drew.grown AP1.grow (by simp) (fun q hq => by cases hq) | exact ((Below.refl _ _).alloc (Nat.le_refl _) _).drew.grown AP1.grow (by simp) (fun q hq => by cases hq)))
                | (refine step_append rfl (wp_append_ints (.tmp 44) (.tmp 46) rfl W.heap.size (0 + a) v1 _ (by simp [Act.eval, Act.put]) (AP1.own.alloc _) ⟨w1.heap.size, 0, none⟩ 1 1 [.int .i64 (k : Int)] (by simp [Act.eval, Act.put]) rfl (by intro j u hj; rcases j with _ | j <;> simp at hj; subst hj; exact World.cell?_alloc_at _ _ _ _ rfl) (by intro u hu; simp at hu; subst hu; rfl) (by omega) (by have := BL1.size; simp; omega) ?_); intro v2 w2 AP2; have BL2 : Below W.heap.size W w2 := (BL1.alloc BL1.size _).grown AP2.grow (by have := BL1.size; simp; omega) (fun q hq => (AP1.own.lt q hq).1))
                | (refine step_append rfl (wp_append_ints (.tmp 44) (.tmp 46) rfl W.heap.size (0 + a) v1 _ (by simp [Act.eval, Act.put]) AP1.own ⟨W.heap.size, 0, none⟩ 1 1 [.int .i64 (k : Int)] (by simp [Act.eval, Act.put]) rfl (by intro j u hj; rcases j with _ | j <;> simp at hj; subst hj; have e := World.cell?_of_block (a := ⟨W.heap.size, 0, none⟩) (AP1.grow.block W.heap.size (by simp) (by simp [Value.ownBlock])); rw [Lib.add_plain, e]; exact World.cell?_alloc_at _ _ _ _ rfl) (by intro u hu; simp at hu; subst hu; rfl) (by omega) BL1.size ?_); intro v2 w2 AP2; have BL2 : Below W.heap.size W w2 := BL1.grown AP2.grow BL1.size (fun q hq => (AP1.own.lt q hq).1))
                | (refine step_append rfl (wp_append_ints (.tmp 47) (.tmp 50) rfl W.heap.size (0 + a + 1) v2 _ (by simp [Act.eval, Act.put]) AP2.own A (n - a) (cap - a) ((r.drop a).map natV) (by simp [Act.eval, Act.put]) L3.out (N3.out _ BL2) (OO.out _).out (by omega) BL2.size ?_); intro v3 w3 AP3; have BL3 : Below W.heap.size W w3 := BL2.grown AP3.grow BL2.size (fun q hq => (AP2.own.lt q hq).1)))
              all_goals
                have HB : Aside (Below w.heap.size w w3) := HW1.out.trans (BL3.mono HW1.out.size)
                have HO : Aside (w3.ownsRow w.heap.size 3 1 v3 (r.take a ++ [k] ++ r.drop a).length ((r.take a ++ [k] ++ r.drop a).map natV)) := by
                  have e := own_mono AP3.own HW1.out.size
                  have e1 : (r.take a ++ [k] ++ r.drop a).length = 0 + a + 1 + (n - a) := by
                    have l1 := L1.out
                    have l3 := L3.out
                    rw [List.length_map] at l1 l3
                    simp only [List.length_append, l1, l3, List.length_cons, List.length_nil]
                    omega
                  rw [e1, List.map_append, List.map_append]
                  exact e
                clear AP1 AP2 AP3 BL1 BL2 BL3 N1 N3 L1 L3 OO HW0 hA
                go_wp2_with fail
                go_roundw
                case rel => exact ⟨k + 1, _, by omega, by go_num, HI, HO, HB, Lib.hid fun h => by simp at h⟩
                case measure => simp [RowKit.intOf]; omega
      · have hez : x.e < 0 := by omega
        go_wp2_with fail
        go_roundw
        case rel => exact ⟨k + 1, r, by omega, by go_num, IN.out.skip HX.out he, hown, hbel, hnil⟩
        case measure => simp [RowKit.intOf]; omega
    · obtain rfl : k = H := by omega
      go_wp2_with fail
      go_ret
      refine ⟨_, rfl, hbel.out, r, ⟨by rw [HL.out]; exact IN.out.perm, IN.out.sorted⟩, ?_⟩
      by_cases hr : r = []
      · have hv := hnil.out hr
        subst hr
        exact Or.inl ⟨hv, rfl⟩
      · obtain ⟨g, cap, hv, hg1, hg2⟩ := row_some hown.out (List.length_pos_iff.2 hr)
        subst hv
        refine Or.inr ⟨g, cap, rfl, hg2, fun j y hj => ?_⟩
        rw [hown.out.cellAt j (by have := (List.getElem?_eq_some_iff.1 hj).1; omega), List.getElem?_map, hj]
        rfl
end Go.Proofs.YtcibmhncdgoemaaGreatDoor
namespace Go.Proofs.YtcibmhncdgoemaaGreatDoor
open Go Go.Shelf Go.RowKit Go.Lib Go.Sort

theorem infoByte : (Tryz.prog.info? 5).map (fun i => (i.zero, i.size, i.bytes)) = some (some (.int .u8 0), 1, 1) := by kernel_rfl
theorem make4 (w : World) : (Instr.makeSlice 49 (.int .i64 4) (.int .i64 4)).run Tryz.prog w = .ok (.slice (some ⟨w.heap.size, 0, none⟩) 4 4) (w.alloc (.cells #[.int .u8 0, .int .u8 0, .int .u8 0, .int .u8 0] 5)) := by
  obtain ⟨i0, hi, hz0, hz1, hz2⟩ := info_parts infoByte
  have h := run_makeSlice w 49 5 i0 (.int .u8 0) Tryz.underlying49 hi hz0 .i64 .i64 4 4 (by omega) (by omega) (by rw [hz1]; decide) (by rw [hz2]; decide) (by omega)
  rw [hz1, show madeCells (Value.int IntKind.u8 0).cells ((4 : Int).toNat * 1) = #[.int .u8 0, .int .u8 0, .int .u8 0, .int .u8 0] from by kernel_rfl] at h
  exact h
theorem make2 (w : World) : (Instr.makeSlice 49 (.int .i64 2) (.int .i64 2)).run Tryz.prog w = .ok (.slice (some ⟨w.heap.size, 0, none⟩) 2 2) (w.alloc (.cells #[.int .u8 0, .int .u8 0] 5)) := by
  obtain ⟨i0, hi, hz0, hz1, hz2⟩ := info_parts infoByte
  have h := run_makeSlice w 49 5 i0 (.int .u8 0) Tryz.underlying49 hi hz0 .i64 .i64 2 2 (by omega) (by omega) (by rw [hz1]; decide) (by rw [hz2]; decide) (by omega)
  rw [hz1, show madeCells (Value.int IntKind.u8 0).cells ((2 : Int).toNat * 1) = #[.int .u8 0, .int .u8 0] from by kernel_rfl] at h
  exact h
/-- a slice of bytes of the call's own, whatever it holds -/
def OwnB (w w' : World) (v : Value) (n : Nat) : Prop := Below w.heap.size w w' ∧ ∃ xs, w'.ownsRow w.heap.size 5 1 v n xs ∧ ∀ x ∈ xs, x.oneCell' = true
theorem ownB_lit (w : World) (cs : Array Value) (n : Nat) (hn : n ≤ 1000) (hs : cs.size = n) (h1 : ∀ x ∈ cs.toList, x.oneCell' = true) : OwnB w (w.alloc (.cells cs 5)) (.slice (some ⟨w.heap.size, 0, none⟩) n n) n :=
  ⟨(Below.refl _ _).alloc (Nat.le_refl _) _, cs.toList, World.ownsRow_lit w cs n (Nat.le_refl _) (by unfold maxLen; omega) (by omega), h1⟩
set_option maxHeartbeats 4000000 in
set_option maxRecDepth 100000 in
theorem put4_s (u : Nat) (hu : u < 4294967296) (w : World) :
    Calls Tryz.prog 63 #[.int .u64 u, .int .i64 4] w fun e w' => ∃ v, e = .returned (.tuple #[v, .int .i64 0]) ∧ OwnB w w' v 4 := by
  have h0 : (u : Int) / 4294967296 = 0 := by omega
  have hmk := make4 w
  go_enter Tryz.func63, Tryz.ntmps63
  go_wp2_with fail
  refine wp_loop_rounds 5 ?_
  iterate 4 (rw [rounds_succ]; go_wp2_with fail)
  rw [rounds_succ]
  go_wp2_with fail
  go_ret2
  exact ⟨_, rfl, ownB_lit w _ 4 (by omega) rfl (by simp [Value.oneCell'])⟩
set_option maxHeartbeats 4000000 in
set_option maxRecDepth 100000 in
theorem put2_s (u : Nat) (hu : u < 65536) (w : World) :
    Calls Tryz.prog 63 #[.int .u64 u, .int .i64 2] w fun e w' => ∃ v, e = .returned (.tuple #[v, .int .i64 0]) ∧ OwnB w w' v 2 := by
  have h0 : (u : Int) / 65536 = 0 := by omega
  have hmk := make2 w
  go_enter Tryz.func63, Tryz.ntmps63
  go_wp2_with fail
  refine wp_loop_rounds 3 ?_
  iterate 2 (rw [rounds_succ]; go_wp2_with fail)
  rw [rounds_succ]
  go_wp2_with fail
  go_ret2
  exact ⟨_, rfl, ownB_lit w _ 2 (by omega) rfl (by simp [Value.oneCell'])⟩
theorem put4_z (z : Int) (h0 : 0 ≤ z) (h1 : z < 4294967296) (w : World) :
    Calls Tryz.prog 63 #[.int .u64 z, .int .i64 4] w fun e w' => ∃ v, e = .returned (.tuple #[v, .int .i64 0]) ∧ OwnB w w' v 4 := by
  obtain ⟨u, rfl⟩ : ∃ u : Nat, z = u := ⟨z.toNat, by omega⟩
  exact put4_s u (by omega) w
set_option maxHeartbeats 2000000 in
set_option maxRecDepth 100000 in
theorem whole_bad (v : Int) (h : v < -2147483648 ∨ 2147483647 < v) (w : World) :
    Calls Tryz.prog 41 #[.int .i64 v] w fun e w' => e = .returned (.tuple #[.slice none 0 0, .int .i64 2]) ∧ w' = w := by
  rcases h with h | h
  · go_enter Tryz.func41, Tryz.ntmps41
    go_wp2_with fail
    go_ret2
    exact ⟨rfl, rfl⟩
  · have h' : ¬ v < -2147483648 := by omega
    go_enter Tryz.func41, Tryz.ntmps41
    go_wp2_with fail
    go_ret2
    exact ⟨rfl, rfl⟩
set_option maxHeartbeats 2000000 in
set_option maxRecDepth 100000 in
theorem whole_ok (v : Int) (h1 : -2147483648 ≤ v) (h2 : v ≤ 2147483647) (w : World) :
    Calls Tryz.prog 41 #[.int .i64 v] w fun e w' => ∃ x, e = .returned (.tuple #[x, .int .i64 0]) ∧ OwnB w w' x 4 := by
  have h1' : ¬ v < -2147483648 := by omega
  have h2' : ¬ v > 2147483647 := by omega
  go_enter Tryz.func41, Tryz.ntmps41
  go_wp2_with (go_at_call 63; refine (put4_z _ (by omega) (by omega) _).mono ?_; rintro e w' ⟨x, rfl, hx⟩; refine Hid.out ?_)
  refine Lib.hid ?_
  have HX := Lib.hid hx
  clear hx
  go_wp2_with fail
  go_ret2
  exact ⟨_, rfl, HX.out⟩
end Go.Proofs.YtcibmhncdgoemaaGreatDoor
namespace Go.Proofs.YtcibmhncdgoemaaGreatDoor
open Go Go.Shelf Go.RowKit Go.Lib Go.Sort

theorem grow_s (n : Nat) (h0 : 0 < n) (hn : n ≤ 1000000) (w : World) :
    Calls Tryz.prog 106 #[.slice none 0 0, .int .i64 n] w fun e w' => ∃ v, e = .returned v ∧ Below w.heap.size w w' ∧ w'.ownsRow w.heap.size 5 1 v 0 [] := by
  obtain ⟨i0, hi, hz0, hz1, hz2⟩ := info_parts infoByte
  refine (Any8.slices_Grow_grow Tryz.growB i0 (.int .u8 0) hi hz0 (by rw [hz1]; decide) none 0 0 n [] w (Nat.le_refl _) (by omega) (by rw [hz2]; omega) (by omega) (by simp) (fun _ => rfl) (fun a h => by cases h)).mono fun e w' ⟨he, hw⟩ => ⟨_, he, ?_, ?_⟩
  · rw [hw]
    exact (Below.refl _ _).drew.alloc (Nat.le_refl _) _
  · rw [hw]
    have hcap : 0 + n ≤ grownCap w (0 + n) 0 5 := grownCap_ge _ _ _ _
    refine ⟨by simp, Or.inr ⟨w.heap.size, grownCap w (0 + n) 0 5, _, rfl, Nat.le_refl _, heap_alloc_new w.drew _, Nat.zero_le _, ?_, ?_, by simp⟩⟩
    · exact grownCap_le_maxLen _ _ _ _ (by unfold maxLen; omega)
    · have e : grownCap w (0 + n) 0 (Tryz.growB_ren.t 25) = grownCap w (0 + n) 0 5 := rfl
      have c1 : (Value.int IntKind.u8 0).cells.size = 1 := rfl
      simp only [Array.size_append, size_zeroCells, c1, List.size_toArray, List.length_nil]
      rw [e]
      omega

/-- a slice of bytes that lies somewhere -/
structure Part where
  ad : Addr
  m : Nat
  c : Nat
  xs : List Value
def Part.val (p : Part) : Value := .slice (some p.ad) p.m p.c
structure PartOK (w : World) (p : Part) : Prop where
  len : p.xs.length = p.m
  lt : p.ad.block < w.heap.size
  cells : ∀ j u, p.xs[j]? = some u → w.cell? (p.ad.add j) = some u
  one : ∀ u ∈ p.xs, u.oneCell' = true
theorem PartOK.below {w w' : World} {p : Part} (h : PartOK w p) (hb : Below w.heap.size w w') : PartOK w' p :=
  ⟨h.len, Nat.lt_of_lt_of_le h.lt hb.size, fun j u hu => by rw [hb.cell (p := p.ad.add j) (by rw [show (p.ad.add j).block = p.ad.block from by unfold Addr.add; split <;> rfl]; exact h.lt)]; exact h.cells j u hu, h.one⟩
/-- all bytes of the first k -/
def flat (ps : List Part) (k : Nat) : List Value := (ps.take k).flatMap (·.xs)
theorem flat_succ {ps : List Part} {k : Nat} {p : Part} (h : ps[k]? = some p) : flat ps (k + 1) = flat ps k ++ p.xs := by
  unfold flat
  have hl := (List.getElem?_eq_some_iff.1 h).1
  have e := (List.getElem?_eq_some_iff.1 h).2
  rw [List.take_succ_eq_append_getElem hl, List.flatMap_append, e]
  simp
theorem flat_mono {ps : List Part} (j k : Nat) (h : j ≤ k) : (flat ps j).length ≤ (flat ps k).length := by
  unfold flat
  obtain ⟨t, rfl⟩ : ∃ t, k = j + t := ⟨k - j, by omega⟩
  rw [List.take_add, List.flatMap_append, List.length_append]
  omega

set_option maxHeartbeats 4000000 in
set_option maxRecDepth 1000000 in
theorem concat_s (q K : Nat) (ps : List Part) (hK : ps.length = K) (hKs : K ≤ 10) (w : World) (hq : q < w.heap.size) (hd : ∀ k p, ps[k]? = some p → w.cell? ⟨q, k, none⟩ = some p.val) (hp : ∀ p ∈ ps, PartOK w p)
    (T : Nat) (hT : (flat ps K).length = T) (h0 : 0 < T) (hTs : T ≤ 200000) :
    Calls Tryz.prog 64 #[.slice (some ⟨q, 0, none⟩) K K] w fun e w' => ∃ v, e = .returned v ∧ OwnB w w' v T := by
  obtain ⟨i0, hi, hz0, hz1, hz2⟩ := info_parts infoByte
  have HD : Aside _ := hd
  have HP : Aside _ := hp
  have HK := Lib.hid hK
  have HT := Lib.hid hT
  clear hd hp hK hT
  go_enter Tryz.func64, Tryz.ntmps64
  go_wp2_with fail
  go_loop [3, 11] (fun z i => ∃ k : Nat, k ≤ K ∧ i = .int .i64 k ∧ ∃ s : Nat, z = .int .i64 s ∧ s ≤ T ∧ Hid (s = (flat ps k).length)) (fun _ i => K - (RowKit.intOf i).toNat)
  case atStart => exact ⟨0, Nat.zero_le _, rfl, 0, rfl, Nat.zero_le _, Lib.hid (by simp [flat])⟩
  case round =>
    obtain ⟨k, hk, rfl, s, rfl, hs, HS⟩ := hrel
    by_cases hlt : k < K
    · obtain ⟨p, hp⟩ : ∃ p, ps[k]? = some p := ⟨ps[k]'(by rw [HK.out]; exact hlt), List.getElem?_eq_getElem _⟩
      have c1 := HD.out k p hp
      unfold Part.val at c1
      have e1 := flat_succ hp
      have e2 : s + p.m = (flat ps (k + 1)).length := by rw [e1, List.length_append, HS.out, (HP.out p (List.mem_of_getElem? hp)).len]
      have e3 : s + p.m ≤ T := by
        rw [e2, ← HT.out]
        exact flat_mono _ _ (by omega)
      have E2 := Lib.hid e2
      clear e1 e2 hp
      have b1 : (k : Int) < (K : Int) := by omega
      have b0 : (0 : Int) ≤ (k : Int) := by omega
      go_wp2_with fail
      go_round
      case rel => exact ⟨k + 1, by omega, by go_num, s + p.m, by go_num, e3, E2⟩
      case measure => simp [RowKit.intOf]; omega
    · obtain rfl : k = K := by omega
      have e4 := HS.out
      rw [HT.out] at e4
      subst e4
      clear HS
      go_wp2_with (go_at_call 106; refine (grow_s s h0 (by omega) _).mono ?_; rintro e w1 ⟨v, rfl, hb, ho⟩; refine Hid.out ?_)
      refine Lib.hid ?_
      have HB0 : Aside _ := hb
      have HO0 : Aside (w1.ownsRow w.heap.size 5 1 v 0 []) := ho
      clear hb ho
      go_wp2_with fail
      go_loopw [6, 27] (fun v i wr => ∃ j : Nat, j ≤ k ∧ i = .int .i64 j ∧ Aside (wr.ownsRow w.heap.size 5 1 v (flat ps j).length (flat ps j)) ∧ Aside (Below w.heap.size w wr)) (fun _ i _ => k - (RowKit.intOf i).toNat)
      case atStart => exact ⟨0, Nat.zero_le _, rfl, HO0, HB0⟩
      case round =>
        clear HO0 HB0
        obtain ⟨j, hj, rfl, hown, hbel⟩ := hrel
        by_cases hlt2 : j < k
        · obtain ⟨p, hp⟩ : ∃ p, ps[j]? = some p := ⟨ps[j]'(by rw [HK.out]; exact hlt2), List.getElem?_eq_getElem _⟩
          have pk := (HP.out p (List.mem_of_getElem? hp)).below hbel.out
          have PK := Lib.hid pk
          have c1 : wr.cell? ⟨q, j, none⟩ = some (.slice (some p.ad) p.m p.c) := by
            rw [hbel.out.cell (p := ⟨q, j, none⟩) hq]
            exact HD.out j p hp
          have e1 := flat_succ hp
          have e3 : (flat ps j).length + p.m ≤ s := by
            have l := pk.len
            have m := flat_mono (ps := ps) (j + 1) k (by omega)
            rw [e1, List.length_append, l, HT.out] at m
            exact m
          have E1 := Lib.hid e1
          clear e1 hp pk
          have b1 : (j : Int) < (k : Int) := by omega
          have b0 : (0 : Int) ≤ (j : Int) := by omega
          go_wp2_with (at_builtin; refine wpList_append_own _ rfl (.tmp 31) (.tmp 32) 49 rfl w.heap.size 5 i0 (.int .u8 0) 1 1 Tryz.underlying49 hi hz0 hz1 hz2 rfl (by decide) _ _ _ rfl hown.out p.ad p.m p.c p.xs rfl (by rw [PK.out.len, Nat.mul_one]) PK.out.cells PK.out.one (by unfold maxLen; omega) (by omega) hbel.out.size ?_)
          intro v' w2 ho2 hg2 _
          have HB : Aside _ := hbel.out.grown hg2 hbel.out.size (fun q hq => (hown.out.lt q hq).1)
          have HO : Aside (w2.ownsRow w.heap.size 5 1 v' (flat ps (j + 1)).length (flat ps (j + 1))) := by
            rw [E1.out, List.length_append, PK.out.len]
            exact ho2
          clear ho2 hg2 hown hbel
          go_wp2_with fail
          go_roundw
          case rel => exact ⟨j + 1, by omega, by go_num, HO, HB⟩
          case measure => simp [RowKit.intOf]; omega
        · obtain rfl : j = k := by omega
          go_wp2_with fail
          go_ret
          refine ⟨_, rfl, hbel.out, flat ps j, ?_, ?_⟩
          · have h := hown.out
            rw [HT.out] at h
            exact h
          · intro x hx
            unfold flat at hx
            rw [List.mem_flatMap] at hx
            obtain ⟨p, hp, hx⟩ := hx
            exact (HP.out p (List.mem_of_mem_take hp)).one x hx
end Go.Proofs.YtcibmhncdgoemaaGreatDoor
namespace Go.Proofs.YtcibmhncdgoemaaGreatDoor
open Go Go.Shelf Go.RowKit Go.Lib Go.Sort

theorem OwnB.part {w w' : World} {v : Value} {n : Nat} (h : OwnB w w' v n) (hn : 0 < n) : ∃ p : Part, v = p.val ∧ p.m = n ∧ PartOK w' p := by
  obtain ⟨hb, xs, ho, h1⟩ := h
  rcases ho.2 with ⟨_, h0⟩ | ⟨g, cap, cur, rfl, hg0, hg, hc⟩
  · omega
  · refine ⟨⟨⟨g, 0, none⟩, n, cap, xs⟩, rfl, rfl, by rw [ho.1]; simp, (Array.getElem?_eq_some_iff.1 hg).1, fun j u hu => ?_, h1⟩
    rw [Lib.add_plain, Nat.zero_add]
    have hj := (List.getElem?_eq_some_iff.1 hu).1
    rw [ho.cellAt j (by rw [ho.1] at hj; exact hj)]
    exact hu
theorem OwnB.later {w w1 w2 : World} {v : Value} {n : Nat} (h : OwnB w1 w2 v n) (hb : Below w.heap.size w w1) : OwnB w w2 v n := by
  obtain ⟨h0, xs, ho, h1⟩ := h
  exact ⟨hb.trans (h0.mono hb.size), xs, ho.mono hb.size, h1⟩
theorem flat2 (a b : Part) : flat [a, b] 2 = a.xs ++ b.xs := by simp [flat]
theorem flat3 (a b c : Part) : flat [a, b, c] 3 = a.xs ++ (b.xs ++ c.xs) := by simp [flat]

set_option maxHeartbeats 4000000 in
set_option maxRecDepth 1000000 in
theorem join_s (q K : Nat) (ps : List Part) (hK : ps.length = K) (hKs : K ≤ 10) (w : World) (hq : q < w.heap.size) (hd : ∀ k p, ps[k]? = some p → w.cell? ⟨q, k, none⟩ = some p.val) (hp : ∀ p ∈ ps, PartOK w p)
    (T : Nat) (hT : (flat ps K).length = T) (h0 : 0 < T) (hTs : T ≤ 200000) :
    Calls Tryz.prog 43 #[.slice (some ⟨q, 0, none⟩) K K] w fun e w' => ∃ v, e = .returned v ∧ OwnB w w' v T := by
  have HC := Lib.hid (concat_s q K ps hK hKs w hq hd hp T hT h0 hTs)
  clear hd hp hT
  go_enter Tryz.func43, Tryz.ntmps43
  go_wp2_with (go_at_call 64; refine HC.out.mono ?_; rintro e w' ⟨v, rfl, hx⟩; refine Hid.out ?_)
  refine Lib.hid ?_
  have HX := Lib.hid hx
  clear hx HC
  go_wp2_with fail
  go_ret
  exact ⟨_, rfl, HX.out⟩

theorem join2 (p1 p2 : Part) (w : World) (h1 : PartOK w p1) (h2 : PartOK w p2) (h0 : 0 < p1.m + p2.m) (hs : p1.m + p2.m ≤ 200000) :
    Calls Tryz.prog 43 #[.slice (some ⟨w.heap.size, 0, none⟩) 2 2] (w.alloc (.cells #[p1.val, p2.val] 49)) fun e w' => ∃ v, e = .returned v ∧ OwnB w w' v (p1.m + p2.m) := by
  have hb : Below w.heap.size w (w.alloc (.cells #[p1.val, p2.val] 49)) := (Below.refl _ _).alloc (Nat.le_refl _) _
  refine (join_s w.heap.size 2 [p1, p2] rfl (by omega) (w.alloc (.cells #[p1.val, p2.val] 49)) (by simp) ?_ ?_ (p1.m + p2.m) ?_ h0 hs).mono ?_
  · intro k p hk
    rcases k with _ | _ | k <;> simp at hk <;> subst hk <;> exact World.cell?_alloc_at _ _ _ _ rfl
  · intro p hp
    simp at hp
    rcases hp with rfl | rfl
    · exact h1.below hb
    · exact h2.below hb
  · rw [flat2, List.length_append, h1.len, h2.len]
  · rintro e w' ⟨v, rfl, h⟩
    exact ⟨v, rfl, h.later hb⟩
theorem join3 (p1 p2 p3 : Part) (w : World) (h1 : PartOK w p1) (h2 : PartOK w p2) (h3 : PartOK w p3) (h0 : 0 < p1.m + (p2.m + p3.m)) (hs : p1.m + (p2.m + p3.m) ≤ 200000) :
    Calls Tryz.prog 43 #[.slice (some ⟨w.heap.size, 0, none⟩) 3 3] (w.alloc (.cells #[p1.val, p2.val, p3.val] 49)) fun e w' => ∃ v, e = .returned v ∧ OwnB w w' v (p1.m + (p2.m + p3.m)) := by
  have hb : Below w.heap.size w (w.alloc (.cells #[p1.val, p2.val, p3.val] 49)) := (Below.refl _ _).alloc (Nat.le_refl _) _
  refine (join_s w.heap.size 3 [p1, p2, p3] rfl (by omega) (w.alloc (.cells #[p1.val, p2.val, p3.val] 49)) (by simp) ?_ ?_ (p1.m + (p2.m + p3.m)) ?_ h0 hs).mono ?_
  · intro k p hk
    rcases k with _ | _ | _ | k <;> simp at hk <;> subst hk <;> exact World.cell?_alloc_at _ _ _ _ rfl
  · intro p hp
    simp at hp
    rcases hp with rfl | rfl | rfl
    · exact h1.below hb
    · exact h2.below hb
    · exact h3.below hb
  · rw [flat3, List.length_append, List.length_append, h1.len, h2.len, h3.len]
  · rintro e w' ⟨v, rfl, h⟩
    exact ⟨v, rfl, h.later hb⟩

set_option maxHeartbeats 4000000 in
set_option maxRecDepth 1000000 in
theorem blob_long (a : Addr) (n c : Nat) (hn : 65536 ≤ n) (w : World) :
    Calls Tryz.prog 42 #[.slice (some a) n c, .int .i64 2] w fun e w' => e = .returned (.tuple #[.slice none 0 0, .int .i64 17]) ∧ w' = w := by
  have h1 : (65536 : Int) ≤ (n : Int) := by omega
  go_enter Tryz.func42, Tryz.ntmps42
  go_wp2_with fail
  go_ret2
  exact ⟨rfl, rfl⟩

set_option maxHeartbeats 4000000 in
set_option maxRecDepth 1000000 in
theorem blob_s (p : Part) (n : Nat) (hn : p.m = n) (hs : n < 65536) (w : World) (hp : PartOK w p) :
    Calls Tryz.prog 42 #[p.val, .int .i64 2] w fun e w' => ∃ v, e = .returned (.tuple #[v, .int .i64 0]) ∧ OwnB w w' v (n + 2) := by
  have h1 : ¬ (65536 : Int) ≤ (n : Int) := by omega
  obtain ⟨ad, m, c, xs⟩ := p
  have hn' : m = n := hn
  subst hn'
  have HP : Aside _ := hp
  clear hp hn
  unfold Part.val
  go_enter Tryz.func42, Tryz.ntmps42
  go_wp2_with (go_at_call 63; refine (put2_s m (by omega) _).mono ?_; rintro e w1 ⟨v1, rfl, hx⟩; refine Hid.out ?_)
  refine Lib.hid ?_
  obtain ⟨p1, rfl, hp1, hok1⟩ := hx.part (by omega)
  have HX := Lib.hid hx
  have HP1 : Aside _ := hok1
  clear hx hok1
  obtain ⟨ad1, m1, c1, xs1⟩ := p1
  have hp1' : m1 = 2 := hp1
  subst hp1'
  unfold Part.val
  have HJ := Lib.hid (join2 ⟨ad1, 2, c1, xs1⟩ ⟨ad, m, c, xs⟩ w1 HP1.out (HP.out.below HX.out.1) (by show 0 < 2 + m; omega) (by show 2 + m ≤ 200000; omega))
  unfold Part.val at HJ
  go_wp2_with (go_at_call 43; refine HJ.out.mono ?_; rintro e w2 ⟨v2, rfl, hx2⟩; refine Hid.out ?_)
  refine Lib.hid ?_
  have HX2 := Lib.hid hx2
  clear hx2 HJ
  go_wp2_with fail
  go_ret2
  refine ⟨_, rfl, ?_⟩
  rw [Nat.add_comm]
  exact HX2.out.later HX.out.1

theorem bytes_part (w : World) (s : ByteArray) (hs : s.size ≤ 70000) : ∃ p : Part, p.val = .slice (some ⟨w.heap.size, 0, none⟩) s.size (grownCap w s.size 0 5) ∧ p.m = s.size ∧ PartOK (bytesWorld w 5 s) p ∧ Below w.heap.size w (bytesWorld w 5 s) := by
  refine ⟨⟨⟨w.heap.size, 0, none⟩, s.size, grownCap w s.size 0 5, (s.data.map fun b => Value.int .u8 b.toNat).toList⟩, rfl, rfl, ⟨?_, ?_, ?_, ?_⟩, bytesWorld_below _ _ _⟩
  · simp
  · show w.heap.size < _
    rw [bytesWorld_size]; omega
  · intro j u hu
    rw [Lib.add_plain, Nat.zero_add]
    have hj := (List.getElem?_eq_some_iff.1 hu).1
    have hj' : j < s.size := by simpa using hj
    rw [bytesWorld_cell _ _ _ _ hj', ← hu]
    have : j < s.data.size := hj'
    simp only [List.getD, Array.getElem?_toList, Array.toList_map, List.getElem?_map]
    rw [Array.getElem?_eq_getElem this]
    simp
  · intro u hu
    simp at hu
    obtain ⟨b, _, rfl⟩ := hu
    rfl
theorem conv49 (w : World) (s : ByteArray) : (convert 9 49 (.string s)).run Tryz.prog w = .ok (.slice (some ⟨w.heap.size, 0, none⟩) s.size (grownCap w s.size 0 5)) (bytesWorld w 5 s) :=
  Lib.run_convert_string_bytes w 9 49 5 s Tryz.underlying9 Tryz.underlying49 Tryz.underlying5

end Go.Proofs.YtcibmhncdgoemaaGreatDoor
namespace Go.Proofs.YtcibmhncdgoemaaGreatDoor
open Go Go.Shelf Go.RowKit Go.Lib Go.Sort

/-- the answer can be written -/
def okR (c v : Int) (s : ByteArray) : Bool := decide (0 ≤ c) && decide (c ≤ 18) && decide (-2147483648 ≤ v) && decide (v ≤ 2147483647) && decide (s.size ≤ 65535)
/-- whole's code -/
def wcode (v : Int) : Int := if -2147483648 ≤ v ∧ v ≤ 2147483647 then 0 else 2
/-- blob's code -/
def bcode (n : Nat) : Int := if n < 65536 then 0 else 17
theorem whole_s (v : Int) (w : World) :
    Calls Tryz.prog 41 #[.int .i64 v] w fun e w' => ∃ x, e = .returned (.tuple #[x, .int .i64 (wcode v)]) ∧ Below w.heap.size w w' ∧ (wcode v = 0 → OwnB w w' x 4) := by
  by_cases h : -2147483648 ≤ v ∧ v ≤ 2147483647
  · refine (whole_ok v h.1 h.2 w).mono ?_
    rintro e w' ⟨x, rfl, ho⟩
    exact ⟨x, by unfold wcode; rw [if_pos h], ho.1, fun _ => ho⟩
  · refine (whole_bad v (by omega) w).mono ?_
    rintro e w' ⟨rfl, rfl⟩
    exact ⟨_, by unfold wcode; rw [if_neg h], Below.refl _ _, fun h0 => by unfold wcode at h0; rw [if_neg h] at h0; cases h0⟩
theorem blob_any (p : Part) (n : Nat) (hn : p.m = n) (w : World) (hp : PartOK w p) :
    Calls Tryz.prog 42 #[p.val, .int .i64 2] w fun e w' => ∃ x, e = .returned (.tuple #[x, .int .i64 (bcode n)]) ∧ Below w.heap.size w w' ∧ (bcode n = 0 → n < 65536 ∧ OwnB w w' x (n + 2)) := by
  by_cases h : n < 65536
  · refine (blob_s p n hn h w hp).mono ?_
    rintro e w' ⟨x, rfl, ho⟩
    exact ⟨x, by unfold bcode; rw [if_pos h], ho.1, fun _ => ⟨h, ho⟩⟩
  · obtain ⟨ad, m, c, xs⟩ := p
    have hn' : m = n := hn
    subst hn'
    refine (blob_long ad m c (by omega) w).mono ?_
    rintro e w' ⟨rfl, rfl⟩
    exact ⟨_, by unfold bcode; rw [if_neg h], Below.refl _ _, fun h0 => by unfold bcode at h0; rw [if_neg h] at h0; cases h0⟩
theorem okR_false {c v : Int} {s : ByteArray} (h : okR c v s = false) : c < 0 ∨ 18 < c ∨ wcode v ≠ 0 ∨ bcode s.size ≠ 0 := by
  simp only [okR, Bool.and_eq_false_iff, decide_eq_false_iff_not] at h
  unfold wcode bcode
  by_cases h1 : -2147483648 ≤ v ∧ v ≤ 2147483647
  · by_cases h2 : s.size < 65536
    · omega
    · rw [if_neg h2]; omega
  · rw [if_neg h1]; omega
theorem okR_true {c v : Int} {s : ByteArray} (h : okR c v s = true) : 0 ≤ c ∧ c ≤ 18 ∧ wcode v = 0 ∧ bcode s.size = 0 ∧ s.size ≤ 65535 := by
  simp only [okR, Bool.and_eq_true, decide_eq_true_eq] at h
  unfold wcode bcode
  rw [if_pos ⟨h.1.1.2, h.1.2⟩, if_pos (by omega)]
  exact ⟨h.1.1.1.1, h.1.1.1.2, rfl, rfl, h.2⟩

set_option maxHeartbeats 4000000 in
set_option maxRecDepth 1000000 in
theorem response_bad (c v : Int) (s : ByteArray) (hs : s.size ≤ 70000) (hr : okR c v s = false) (w : World) :
    Calls Tryz.prog 21 #[.agg #[.int .i64 c, .int .i64 v, .string s]] w fun e w' => e = .returned (.tuple #[.slice none 0 0, .int .i64 2]) ∧ Below w.heap.size w w' := by
  have hR := Lib.hid (okR_false hr)
  clear hr
  go_enter Tryz.func21, Tryz.ntmps21
  go_wp2_with (go_at_call 41; refine (whole_s v _).mono ?_; rintro e w1 ⟨x1, rfl, hb1, _⟩; refine Hid.out ?_)
  refine Lib.hid ?_
  have HB1 := Lib.hid hb1
  clear hb1
  have hA : Below w.heap.size w (w.alloc (.cells #[.int .i64 c, .int .i64 v, .string s] 28)) := (Below.refl _ _).alloc (Nat.le_refl _) _
  have c0 : w1.cell? ⟨w.heap.size, 0, none⟩ = some (.int .i64 c) := by
    rw [HB1.out.cell (p := ⟨w.heap.size, 0, none⟩) (by simp)]; exact World.cell?_alloc_at _ _ _ _ rfl
  have c2 : w1.cell? ⟨w.heap.size, 2, none⟩ = some (.string s) := by
    rw [HB1.out.cell (p := ⟨w.heap.size, 2, none⟩) (by simp)]; exact World.cell?_alloc_at _ _ _ _ rfl
  obtain ⟨p, hpv, hpm, hpo, hpb⟩ := bytes_part w1 s hs
  have HB := Lib.hid (blob_any p s.size hpm _ hpo)
  rw [hpv] at HB
  have HPB := Lib.hid hpb
  clear hpo hpb hpv hpm
  have hcv := conv49
  have C0 := Lib.hid c0
  have HA := Lib.hid hA
  clear c0 hA
  go_wp2_with (go_at_call 42; refine HB.out.mono ?_; rintro e w2 ⟨x2, rfl, hb2, _⟩; refine Hid.out ?_)
  refine Lib.hid ?_
  have c0 : w2.cell? ⟨w.heap.size, 0, none⟩ = some (.int .i64 c) := by
    rw [hb2.cell (p := ⟨w.heap.size, 0, none⟩) (Nat.lt_of_lt_of_le (show w.heap.size < w1.heap.size by have := HB1.out.size; simp at this; omega) HPB.out.size), HPB.out.cell (p := ⟨w.heap.size, 0, none⟩) (by have := HB1.out.size; simp at this; exact this)]
    exact C0.out
  have HB2 := Lib.hid hb2
  have hw : Hid (Below w.heap.size w w2) := Lib.hid (HA.out.trans ((HB1.out.trans ((HPB.out.trans (HB2.out.mono HPB.out.size)).mono HB1.out.size)).mono HA.out.size))
  clear hb2 HB C0 HPB HB2 HB1 HA
  have hR' := hR.out
  by_cases k0 : c < 0
  · clear hR'
    go_wp2_with fail
    go_ret2
    exact ⟨rfl, hw.out⟩
  by_cases k1 : 18 < c
  · clear hR'
    go_wp2_with fail
    go_ret2
    exact ⟨rfl, hw.out⟩
  by_cases k2 : wcode v = 0
  · have k3 : ¬ bcode s.size = 0 := by omega
    clear hR'
    go_wp2_with fail
    go_ret2
    exact ⟨rfl, hw.out⟩
  · clear hR'
    go_wp2_with fail
    go_ret2
    exact ⟨rfl, hw.out⟩
set_option maxHeartbeats 4000000 in
set_option maxRecDepth 1000000 in
theorem response_ok (c v : Int) (s : ByteArray) (hs : s.size ≤ 70000) (hr : okR c v s = true) (w : World) :
    Calls Tryz.prog 21 #[.agg #[.int .i64 c, .int .i64 v, .string s]] w fun e w' => ∃ x, e = .returned (.tuple #[x, .int .i64 0]) ∧ Below w.heap.size w w' := by
  obtain ⟨k0, k1, k2, k3, k4⟩ := okR_true hr
  have hW := whole_s v
  rw [k2] at hW
  clear hr
  go_enter Tryz.func21, Tryz.ntmps21
  go_wp2_with (go_at_call 41; refine (hW _).mono ?_; rintro e w1 ⟨x1, rfl, hb1, ho1⟩; refine Hid.out ?_)
  refine Lib.hid ?_
  have HB1 := Lib.hid hb1
  have HO1 := Lib.hid (ho1 trivial)
  clear hb1 ho1 hW
  have hA : Below w.heap.size w (w.alloc (.cells #[.int .i64 c, .int .i64 v, .string s] 28)) := (Below.refl _ _).alloc (Nat.le_refl _) _
  have c0 : w1.cell? ⟨w.heap.size, 0, none⟩ = some (.int .i64 c) := by
    rw [HB1.out.cell (p := ⟨w.heap.size, 0, none⟩) (by simp)]; exact World.cell?_alloc_at _ _ _ _ rfl
  have c2 : w1.cell? ⟨w.heap.size, 2, none⟩ = some (.string s) := by
    rw [HB1.out.cell (p := ⟨w.heap.size, 2, none⟩) (by simp)]; exact World.cell?_alloc_at _ _ _ _ rfl
  obtain ⟨p, hpv, hpm, hpo, hpb⟩ := bytes_part w1 s hs
  have HB := Lib.hid (blob_any p s.size hpm _ hpo)
  rw [hpv] at HB
  have HPB := Lib.hid hpb
  clear hpo hpb hpv hpm
  have hcv := conv49
  have C0 := Lib.hid c0
  have HA := Lib.hid hA
  clear c0 hA
  rw [k3] at HB
  go_wp2_with (go_at_call 42; refine HB.out.mono ?_; rintro e w2 ⟨x2, rfl, hb2, ho2⟩; refine Hid.out ?_)
  refine Lib.hid ?_
  have c0 : w2.cell? ⟨w.heap.size, 0, none⟩ = some (.int .i64 c) := by
    rw [hb2.cell (p := ⟨w.heap.size, 0, none⟩) (Nat.lt_of_lt_of_le (show w.heap.size < w1.heap.size by have := HB1.out.size; simp at this; omega) HPB.out.size), HPB.out.cell (p := ⟨w.heap.size, 0, none⟩) (by have := HB1.out.size; simp at this; exact this)]
    exact C0.out
  have HB2 := Lib.hid hb2
  have hw : Hid (Below w.heap.size w w2) := Lib.hid (HA.out.trans ((HB1.out.trans ((HPB.out.trans (HB2.out.mono HPB.out.size)).mono HB1.out.size)).mono HA.out.size))
  obtain ⟨⟨ad1, n1, cc1, xs1⟩, e1, m1, o1⟩ := HO1.out.part (by omega)
  obtain ⟨⟨ad2, n2, cc2, xs2⟩, e2, m2, o2⟩ := (ho2 trivial).2.part (by omega)
  have c0' : Below w1.heap.size w1 w2 := HPB.out.trans (HB2.out.mono HPB.out.size)
  have O1 := o1.below c0'
  have m1' : n1 = 4 := m1
  have m2' : n2 = s.size + 2 := m2
  subst m1' m2'
  unfold Part.val at e1 e2
  subst e1 e2
  have hlit : PartOK (w2.alloc (.cells #[Value.int IntKind.u8 c] 5)) ⟨⟨w2.heap.size, 0, none⟩, 1, 1, [Value.int .u8 c]⟩ := by
    refine ⟨rfl, by simp, fun j u hj => ?_, fun u hu => by simp at hu; subst hu; rfl⟩
    rcases j with _ | j <;> simp at hj
    subst hj
    exact World.cell?_alloc_at _ _ _ _ rfl
  have hb3 : Below w2.heap.size w2 (w2.alloc (.cells #[Value.int IntKind.u8 c] 5)) := (Below.refl _ _).alloc (Nat.le_refl _) _
  have HJ := Lib.hid (join3 _ _ _ _ hlit (O1.below hb3) (o2.below hb3) (by show 0 < 1 + _; omega) (by show 1 + (4 + (s.size + 2)) ≤ 200000; omega))
  unfold Part.val at HJ
  rw [show (w2.alloc (.cells #[Value.int IntKind.u8 c] 5)).heap.size = w2.heap.size + 1 by simp] at HJ
  have HB3 := Lib.hid hb3
  clear m1 m2 o1 o2 ho2 c0' O1 hlit hb3
  clear hb2 HB C0 HPB HB2 HB1 HA HO1
  have g0 : ¬ c < 0 := by omega
  have g1 : ¬ 18 < c := by omega
  have g2 : c % 256 = c := by omega
  go_wp2_with (go_at_call 43; refine HJ.out.mono ?_; rintro e w3 ⟨v3, rfl, hx3⟩; refine Hid.out ?_)
  refine Lib.hid ?_
  have HX3 := Lib.hid hx3.1
  clear hx3 HJ
  go_wp2_with fail
  go_ret2
  refine ⟨_, rfl, hw.out.trans ((HB3.out.trans (HX3.out.mono HB3.out.size)).mono hw.out.size)⟩
theorem response_s (c v : Int) (s : ByteArray) (hs : s.size ≤ 70000) (w : World) :
    Calls Tryz.prog 21 #[.agg #[.int .i64 c, .int .i64 v, .string s]] w fun e w' => ∃ x, e = .returned (.tuple #[x, .int .i64 (if okR c v s then 0 else 2)]) ∧ Below w.heap.size w w' := by
  by_cases h : okR c v s = true
  · rw [if_pos h]
    exact response_ok c v s hs h w
  · rw [if_neg h]
    refine (response_bad c v s hs (by simpa using h) w).mono ?_
    rintro e w' ⟨rfl, hb⟩
    exact ⟨_, rfl, hb⟩
end Go.Proofs.YtcibmhncdgoemaaGreatDoor
namespace Go.Proofs.YtcibmhncdgoemaaGreatDoor
open Go Go.Shelf Go.RowKit Go.Lib Go.Sort

theorem div_step (u k : Nat) : u / 256 ^ k / 256 = u / 256 ^ (k + 1) := by rw [Nat.div_div_eq_div_mul, Nat.pow_succ]

set_option maxHeartbeats 4000000 in
set_option maxRecDepth 1000000 in
theorem rput_s (u n : Nat) (hn : 1 ≤ n) (hn8 : n ≤ 8) (hu : u < 256 ^ n) (hu32 : u < 4294967296) (w : World) :
    Calls Tryz.prog 62 #[.int .u64 u, .int .i64 n] w fun e w' => ∃ v, e = .returned (.tuple #[v, .int .i64 0]) ∧ OwnB w w' v n := by
  obtain ⟨i0, hi, hz0, hz1, hz2⟩ := info_parts infoByte
  have HU := Lib.hid hu
  have HU32 := Lib.hid hu32
  clear hu hu32
  have g1 : ¬ (n : Int) < 1 := by omega
  have g2 : ¬ (8 : Int) < (n : Int) := by omega
  go_enter Tryz.func62, Tryz.ntmps62
  go_wp2_with fail
  go_loopw [0, 6, 7] (fun x v i wr => ∃ k : Nat, k ≤ n ∧ i = .int .i64 k ∧ ∃ z : Nat, x = .int .u64 z ∧ Hid (z = u / 256 ^ k) ∧ Aside (∃ xs, wr.ownsRow w.heap.size 5 1 v k xs ∧ ∀ y ∈ xs, y.oneCell' = true) ∧ Aside (Below w.heap.size w wr)) (fun _ _ i _ => n - (RowKit.intOf i).toNat)
  case atStart => exact ⟨0, Nat.zero_le _, rfl, u, rfl, Lib.hid (by simp), ⟨[], World.ownsRow_nil _ _ _ _, by simp⟩, Below.refl _ _⟩
  case round =>
    obtain ⟨k, hk, rfl, z, rfl, HZ, hown, hbel⟩ := hrel
    by_cases hlt : k < n
    · have b1 : (k : Int) < (n : Int) := by omega
      obtain ⟨xs, hown, hone⟩ := hown.out
      have HO1 := Lib.hid hone
      have HOW := Lib.hid hown
      clear hone hown
      go_wp2_with (at_builtin; refine wpList_append_own _ rfl (.tmp 19) (.tmp 23) 49 rfl w.heap.size 5 i0 (.int .u8 0) 1 1 Tryz.underlying49 hi hz0 hz1 hz2 rfl (by decide) _ _ _ rfl (HOW.out.alloc _) ⟨wr.heap.size, 0, none⟩ 1 1 [.int .u8 ((z : Int) % 256)] rfl rfl ?g1 ?g2 ?g3 ?g4 ?g5 ?_)
      case g1 =>
        intro j y hj
        rcases j with _ | j
        · simp at hj
          subst hj
          exact World.cell?_alloc_at _ _ _ _ (by simp)
        · simp at hj
      case g2 => intro y hy; simp at hy; subst hy; rfl
      case g3 => unfold maxLen; omega
      case g4 => omega
      case g5 => have := hbel.out.size; simp; omega
      intro v' w1 hown' hgrow _
      have HB : Aside (Below w.heap.size w w1) := (hbel.out.alloc (by exact hbel.out.size) _).grown hgrow (by have := hbel.out.size; simp; omega) (fun q hq => (HOW.out.lt q hq).1)
      have HO : Aside (∃ xs, w1.ownsRow w.heap.size 5 1 v' (k + 1) xs ∧ ∀ y ∈ xs, y.oneCell' = true) := ⟨_, hown', fun y hy => by
        rw [List.mem_append] at hy
        rcases hy with hy | hy
        · exact HO1.out y hy
        · simp at hy; subst hy; rfl⟩
      clear hown' hgrow HOW HO1 hbel
      have Z32 : Hid (z < 4294967296) := Lib.hid (by rw [HZ.out]; exact Nat.lt_of_le_of_lt (Nat.div_le_self _ _) HU32.out)
      have hwr : IntKind.u64.wrap ((z : Int) / 256) = (((z / 256 : Nat)) : Int) := by have h5 : z < 4294967296 := Z32.out; rw [Go.IntWalk.u64_in _ (by omega)]; omega
      have HZ2 := Lib.hid (show z / 256 = u / 256 ^ (k + 1) by rw [HZ.out]; exact div_step _ _)
      clear HZ
      go_wp2_with fail
      go_roundw
      case rel => exact ⟨k + 1, by omega, by go_num, z / 256, by go_num, HZ2, HO, HB⟩
      case measure => simp [RowKit.intOf]; omega
    · obtain rfl : k = n := by omega
      have hz0 : z = 0 := by rw [HZ.out]; exact Nat.div_eq_of_lt HU.out
      subst hz0
      go_wp2_with fail
      go_ret2
      exact ⟨_, rfl, hbel.out, hown.out⟩
set_option maxHeartbeats 4000000 in
set_option maxRecDepth 1000000 in
theorem rwhole_s (v : Int) (h1 : -2147483648 ≤ v) (h2 : v ≤ 2147483647) (w : World) :
    Calls Tryz.prog 44 #[.int .i64 v] w fun e w' => ∃ x, e = .returned (.tuple #[x, .int .i64 0]) ∧ OwnB w w' x 4 := by
  have h1' : ¬ v < -2147483648 := by omega
  have h2' : ¬ 2147483647 < v := by omega
  have HP : Hid (∀ z : Int, 0 ≤ z → z < 4294967296 → ∀ w : World, Calls Tryz.prog 62 #[.int .u64 z, .int .i64 4] w fun e w' => ∃ x, e = .returned (.tuple #[x, .int .i64 0]) ∧ OwnB w w' x 4) := Lib.hid fun z h0 h1 w => by
    obtain ⟨u, rfl⟩ : ∃ u : Nat, z = u := ⟨z.toNat, by omega⟩
    exact rput_s u 4 (by omega) (by omega) (by omega) (by omega) w
  by_cases h3 : v < 0
  · have h4 : (0:Int) ≤ v + 4294967296 ∧ v + 4294967296 < 4294967296 := by omega
    have H4 := Lib.hid h4
    clear h4
    go_enter Tryz.func44, Tryz.ntmps44
    go_wp2_with (go_at_call 62; refine (HP.out _ (by omega) (by omega) _).mono ?_; rintro e w1 ⟨x1, rfl, hx⟩; refine Hid.out ?_)
    refine Lib.hid ?_
    have HX := Lib.hid hx
    clear hx
    go_wp2_with fail
    go_ret2
    exact ⟨_, rfl, HX.out⟩
  · go_enter Tryz.func44, Tryz.ntmps44
    go_wp2_with (go_at_call 62; refine (HP.out _ (by omega) (by omega) _).mono ?_; rintro e w1 ⟨x1, rfl, hx⟩; refine Hid.out ?_)
    refine Lib.hid ?_
    have HX := Lib.hid hx
    clear hx
    go_wp2_with fail
    go_ret2
    exact ⟨_, rfl, HX.out⟩
set_option maxHeartbeats 4000000 in
set_option maxRecDepth 1000000 in
theorem rblob_s (p : Part) (n : Nat) (hn : p.m = n) (hs : n < 65536) (w : World) (hp : PartOK w p) :
    Calls Tryz.prog 61 #[p.val, .int .i64 2] w fun e w' => ∃ v, e = .returned (.tuple #[v, .int .i64 0]) ∧ OwnB w w' v (n + 2) := by
  obtain ⟨i0, hi, hz0, hz1, hz2⟩ := info_parts infoByte
  obtain ⟨ad, m, c, xs⟩ := p
  have hn' : m = n := hn
  subst hn'
  have HP : Aside _ := hp
  clear hp hn
  unfold Part.val
  go_enter Tryz.func61, Tryz.ntmps61
  go_wp2_with (go_at_call 62; refine (rput_s m 2 (by omega) (by omega) (by omega) (by omega) _).mono ?_; rintro e w1 ⟨v1, rfl, hx⟩; refine Hid.out ?_)
  refine Lib.hid ?_
  obtain ⟨hb, ys, ho, h1⟩ := hx
  have HB := Lib.hid hb
  have HO := Lib.hid ho
  have H1 := Lib.hid h1
  have HP2 := Lib.hid (HP.out.below hb)
  clear hb ho h1 HP
  go_wp2_with (at_builtin; refine wpList_append_own _ rfl (.tmp 24) (.tmp 25) 49 rfl w.heap.size 5 i0 (.int .u8 0) 1 1 Tryz.underlying49 hi hz0 hz1 hz2 rfl (by decide) _ _ _ rfl HO.out ad m c xs rfl (by rw [Nat.mul_one]; exact HP2.out.len) HP2.out.cells HP2.out.one (by unfold maxLen; omega) (by omega) HB.out.size ?_)
  intro v' w2 hown' hgrow _
  have HB2 : Hid (Below w.heap.size w w2) := HB.out.grown hgrow HB.out.size (fun q hq => (HO.out.lt q hq).1)
  have HO2 := Lib.hid hown'
  have H2 : Hid (∀ y ∈ ys ++ xs, y.oneCell' = true) := Lib.hid fun y hy => by
    rw [List.mem_append] at hy
    rcases hy with hy | hy
    · exact H1.out y hy
    · exact HP2.out.one y hy
  clear hown' hgrow HO HB H1 HP2
  go_wp2_with fail
  go_ret2
  refine ⟨_, rfl, HB2.out, _, ?_, H2.out⟩
  rw [Nat.add_comm]
  exact HO2.out
set_option maxHeartbeats 4000000 in
set_option maxRecDepth 1000000 in
theorem rblob39_s (s : ByteArray) (hs : s.size ≤ 65535) (w : World) :
    Calls Tryz.prog 39 #[.string s, .int .i64 2] w fun e w' => ∃ v, e = .returned v ∧ OwnB w w' v (s.size + 2) := by
  obtain ⟨p, hpv, hpm, hpo, hpb⟩ := bytes_part w s (by omega)
  have HB := Lib.hid (rblob_s p s.size hpm (by omega) _ hpo)
  rw [hpv] at HB
  have HPB := Lib.hid hpb
  clear hpo hpb hpv hpm
  have hcv := conv49
  go_enter Tryz.func39, Tryz.ntmps39
  go_wp2_with (go_at_call 61; refine HB.out.mono ?_; rintro e w2 ⟨x2, rfl, hx⟩; refine Hid.out ?_)
  refine Lib.hid ?_
  have HX := Lib.hid hx
  clear hx HB
  go_wp2_with fail
  go_ret
  exact ⟨_, rfl, HX.out.later HPB.out⟩
end Go.Proofs.YtcibmhncdgoemaaGreatDoor
namespace Go.Proofs.YtcibmhncdgoemaaGreatDoor
open Go Go.Shelf Go.RowKit Go.Lib Go.Sort

/-- a call of a function, at a step of a region that draws its order -/
theorem step_call {ops : Array Oper} {o : Oper} {a : Act} {w : World} {K : Act → World → Prop} {Q : Exit → Act → World → Prop} {E : Prop} (hg : o.guard = none) (f : FuncId) (vals : Array Value)
    (hrun : (execOp a.eval o).run Tryz.prog w = .ok (.enter f vals) w) {R : Value → World → Prop} (hc : Calls Tryz.prog f vals w fun e w' => ∃ v, e = .returned v ∧ R v w')
    (h : ∀ v w', R v w' → K (a.put o.dst v) w') :
    if Region.wanted o (yielded ops a.tmps) = true then Oper.wp Tryz.prog o a w K Q else E := by
  rw [if_pos (by unfold Region.wanted; rw [hg])]
  unfold Oper.wp
  rw [hrun, Oper.upon_enter]
  refine hc.mono ?_
  rintro e' w' ⟨v, rfl, r⟩
  exact h v w' r
/-- what an append of bytes leaves -/
structure AppendedB (base : Nat) (w w' : World) (v v' : Value) (n : Nat) (xs : List Value) : Prop where
  own : w'.ownsRow base 5 1 v' n xs
  grow : w.grownBy w' v.ownBlock
theorem wp_append_bytes {w : World} {o : Oper} {a : Act} {K : Act → World → Prop} {Q : Exit → Act → World → Prop} (s x : Operand)
    (ho : o.op = .call { callee := .builtin .append, args := #[s, x], argTypes := #[49, 49] }) (base n : Nat) (v : Value) (xs : List Value) (hs : a.eval s = v) (hown : w.ownsRow base 5 1 v n xs)
    (ad : Addr) (m c : Nat) (news : List Value) (hx : a.eval x = .slice (some ad) m c) (hl : news.length = m) (hnews : ∀ j u, news[j]? = some u → w.cell? (ad.add j) = some u) (h1 : ∀ u ∈ news, u.oneCell' = true)
    (hb : n + m ≤ 200000) (hbase : base ≤ w.heap.size) (h : ∀ v' w', AppendedB base w w' v v' (n + m) (xs ++ news) → K (a.put o.dst v') w') : o.wp Tryz.prog a w K Q := by
  obtain ⟨i0, hi, hz0, hz1, hz2⟩ := info_parts infoByte
  exact wp_append_own w s x 49 ho base 5 i0 (.int .u8 0) 1 1 Tryz.underlying49 hi hz0 hz1 hz2 rfl (by decide) v n xs hs hown ad m c news hx (by rw [hl, Nat.mul_one]) hnews h1 (by unfold maxLen; omega) (by omega) hbase fun v' w' a b _ => h v' w' ⟨a, b⟩
theorem own_below {w w' : World} {base : Nat} {e : TypeId} {size n : Nat} {v : Value} {xs : List Value} (h : w.ownsRow base e size v n xs) (hb : Below w.heap.size w w') : w'.ownsRow base e size v n xs := by
  refine ⟨h.1, ?_⟩
  rcases h.2 with h2 | ⟨g, cap, cur, h1, h2, h3, h4⟩
  · exact Or.inl h2
  · exact Or.inr ⟨g, cap, cur, h1, h2, by rw [hb.block g (Array.getElem?_eq_some_iff.1 h3).1]; exact h3, h4⟩
theorem OwnB.partAt {w w' : World} {v : Value} {n : Nat} (h : OwnB w w' v n) (hn : 0 < n) : ∃ (ad : Addr) (c : Nat) (xs : List Value), v = .slice (some ad) n c ∧ PartOK w' ⟨ad, n, c, xs⟩ ∧ w.heap.size ≤ ad.block := by
  obtain ⟨hb, xs, ho, h1⟩ := h
  rcases ho.2 with ⟨_, h0⟩ | ⟨g, cap, cur, rfl, hg0, hg, hc⟩
  · omega
  · refine ⟨⟨g, 0, none⟩, cap, xs, rfl, ⟨by rw [ho.1]; simp, (Array.getElem?_eq_some_iff.1 hg).1, fun j u hu => ?_, h1⟩, hg0⟩
    rw [Lib.add_plain, Nat.zero_add]
    have hj := (List.getElem?_eq_some_iff.1 hu).1
    rw [ho.cellAt j (by rw [ho.1] at hj; exact hj)]
    exact hu
theorem PartOK.kept {w w' : World} {ad : Addr} {m c : Nat} {xs : List Value} {row : Option Nat} (h : PartOK w ⟨ad, m, c, xs⟩) (hg : w.grownBy w' row) (hne : some ad.block ≠ row) : PartOK w' ⟨ad, m, c, xs⟩ := by
  refine ⟨h.len, Nat.lt_of_lt_of_le h.lt hg.size, fun j u hu => ?_, h.one⟩
  have e : (ad.add j).block = ad.block := by unfold Addr.add; split <;> rfl
  rw [World.cell?_of_block (w := w) (by rw [e]; exact hg.block _ h.lt hne)]
  exact h.cells j u hu
theorem OwnB.since {W X w2 : World} {v : Value} {n : Nat} (h : OwnB X w2 v n) (hb : Below W.heap.size W X) : Below W.heap.size W w2 := hb.trans (h.1.mono hb.size)
theorem partOK_lit (w : World) (u : Value) (hu : u.oneCell' = true) : (w.alloc (.cells #[u] 5)).ownsRow w.heap.size 5 1 (.slice (some ⟨w.heap.size, 0, none⟩) 1 1) 1 [u] :=
  World.ownsRow_lit w #[u] 1 (Nat.le_refl _) (by unfold maxLen; omega) rfl

set_option maxHeartbeats 4000000 in
set_option maxRecDepth 1000000 in
theorem rresponse_bad (c v : Int) (s : ByteArray) (hs : s.size ≤ 70000) (hr : okR c v s = false) (w : World) :
    Calls Tryz.prog 22 #[.agg #[.int .i64 c, .int .i64 v, .string s]] w fun e w' => e = .returned (.tuple #[.slice none 0 0, .int .i64 2]) ∧ Below w.heap.size w w' := by
  have hA : Below w.heap.size w (w.alloc (.cells #[.int .i64 c, .int .i64 v, .string s] 28)) := (Below.refl _ _).alloc (Nat.le_refl _) _
  have HA := Lib.hid hA
  clear hA
  have h : c < 0 ∨ 18 < c ∨ v < -2147483648 ∨ 2147483647 < v ∨ 65535 < s.size := by
    simp only [okR, Bool.and_eq_false_iff, decide_eq_false_iff_not] at hr
    omega
  clear hr
  by_cases k0 : c < 0
  · clear h
    go_enter Tryz.func22, Tryz.ntmps22
    go_wp2_with fail
    go_ret2
    exact ⟨rfl, HA.out⟩
  by_cases k1 : 18 < c
  · clear h
    go_enter Tryz.func22, Tryz.ntmps22
    go_wp2_with fail
    go_ret2
    exact ⟨rfl, HA.out⟩
  by_cases k2 : v < -2147483648
  · clear h
    go_enter Tryz.func22, Tryz.ntmps22
    go_wp2_with fail
    go_ret2
    exact ⟨rfl, HA.out⟩
  by_cases k3 : 2147483647 < v
  · clear h
    go_enter Tryz.func22, Tryz.ntmps22
    go_wp2_with fail
    go_ret2
    exact ⟨rfl, HA.out⟩
  have k4 : (65535 : Int) < (s.size : Int) := by omega
  clear h
  go_enter Tryz.func22, Tryz.ntmps22
  go_wp2_with fail
  go_ret2
  exact ⟨rfl, HA.out⟩

set_option maxHeartbeats 4000000 in
set_option maxRecDepth 1000000 in
theorem rresponse_ok (c v : Int) (s : ByteArray) (hs : s.size ≤ 65535) (h0 : 0 ≤ c) (h1 : c ≤ 18) (h2 : -2147483648 ≤ v) (h3 : v ≤ 2147483647) (w : World) :
    Calls Tryz.prog 22 #[.agg #[.int .i64 c, .int .i64 v, .string s]] w fun e w' => ∃ x, e = .returned (.tuple #[x, .int .i64 0]) ∧ Below w.heap.size w w' := by
  have hA : Below w.heap.size w (w.alloc (.cells #[.int .i64 c, .int .i64 v, .string s] 28)) := (Below.refl _ _).alloc (Nat.le_refl _) _
  have HA := Lib.hid hA
  clear hA
  have k0 : ¬ c < 0 := by omega
  have k1 : ¬ 18 < c := by omega
  have k2 : ¬ v < -2147483648 := by omega
  have k3 : ¬ 2147483647 < v := by omega
  have k4 : ¬ (65535 : Int) < (s.size : Int) := by omega
  have HW := Lib.hid (fun w => rwhole_s v h2 h3 w)
  have g2 : c % 256 = c := by omega
  have HSZ := Lib.hid hs
  clear h0 h1 h2 h3
  go_enter Tryz.func22, Tryz.ntmps22
  go_wp2_with (go_at_call 44; refine (HW.out _).mono ?_; rintro e W ⟨x1, rfl, hx⟩; refine Hid.out ?_)
  refine Lib.hid ?_
  clear HW
  obtain ⟨ad1, cc1, xs1, rfl, PO1, _⟩ := hx.partAt (by omega)
  have HC0 : Hid (∀ W', Below W.heap.size W W' → W'.cell? ⟨w.heap.size, 0, none⟩ = some (.int .i64 c) ∧ W'.cell? ⟨w.heap.size, 2, none⟩ = some (.string s)) := Lib.hid fun W' hb => by
    have hq : w.heap.size < W.heap.size := by have := hx.1.size; simp at this; omega
    rw [hb.cell (p := ⟨w.heap.size, 0, none⟩) hq, hb.cell (p := ⟨w.heap.size, 2, none⟩) hq, hx.1.cell (p := ⟨w.heap.size, 0, none⟩) (by simp), hx.1.cell (p := ⟨w.heap.size, 2, none⟩) (by simp)]
    exact ⟨World.cell?_alloc_at _ _ _ _ rfl, World.cell?_alloc_at _ _ _ _ rfl⟩
  have HWB : Hid (Below w.heap.size w W) := Lib.hid (HA.out.trans (hx.1.mono HA.out.size))
  have P1 := Lib.hid PO1
  obtain ⟨c0, c2⟩ := HC0.out W (Below.refl _ _)
  have hq : w.heap.size < W.heap.size := by have := hx.1.size; simp at this; omega
  clear hx PO1 HA
  go_wp2_with fail
  have HB39 := Lib.hid (fun w => rblob39_s s HSZ.out w)
  go_region_law (first
    | (refine step_call rfl 39 #[.string s, .int .i64 2] (by kernel_rfl) (HB39.out _) ?_; intro vx w2 O2; have BC : Below W.heap.size W w2 := O2.since (show Below W.heap.size W W.drew from (Below.refl _ _).drew); obtain ⟨d0, d2⟩ := HC0.out w2 BC; obtain ⟨ad2, cc2, xs2, hvx, PO2, hge⟩ := O2.partAt (by omega); subst hvx; have tag := True.intro)
    | (refine step_call rfl 39 #[.string s, .int .i64 2] (by kernel_rfl) (HB39.out _) ?_; intro vx w2 O2; have BC : Below W.heap.size W w2 := O2.since BA; obtain ⟨d0, d2⟩ := HC0.out w2 BC; obtain ⟨ad2, cc2, xs2, hvx, PO2, hge⟩ := O2.partAt (by omega); subst hvx; have ON := own_below AP1.own O2.1)
    | (refine step_call rfl 39 #[.string s, .int .i64 2] (by kernel_rfl) (HB39.out _) ?_; intro vx w2 O2; have BC : Below W.heap.size W w2 := O2.since (by first | exact (Below.refl _ _).drew | exact ((Below.refl _ _).alloc (Nat.le_refl _) _).drew | exact ((Below.refl _ _).drew.alloc (Nat.le_refl _) _)); obtain ⟨d0, d2⟩ := HC0.out w2 BC; obtain ⟨ad2, cc2, xs2, hvx, PO2, hge⟩ := O2.partAt (by omega); subst hvx; have ON : w2.ownsRow W.heap.size 5 1 (.slice (some ⟨W.heap.size, 0, none⟩) 1 1) 1 [.int .u8 (IntKind.u8.wrap c)] := own_below (partOK_lit W _ rfl) O2.1)
    | (refine step_append rfl (wp_append_bytes (.tmp 39) (.tmp 40) rfl W.heap.size 1 (.slice (some ⟨W.heap.size, 0, none⟩) 1 1) [.int .u8 (IntKind.u8.wrap c)] (by simp [Act.eval, Act.put]) (partOK_lit W _ rfl) ad1 4 cc1 xs1 (by simp [Act.eval, Act.put]) P1.out.len (P1.out.below (show Below W.heap.size W _ from (by first | exact (Below.refl _ _).drew | exact ((Below.refl _ _).alloc (Nat.le_refl _) _).drew | exact ((Below.refl _ _).drew.alloc (Nat.le_refl _) _)))).cells P1.out.one (by omega) (Below.size (show Below W.heap.size W _ from (by first | exact (Below.refl _ _).drew | exact ((Below.refl _ _).alloc (Nat.le_refl _) _).drew | exact ((Below.refl _ _).drew.alloc (Nat.le_refl _) _)))) ?_); intro v1 w1 AP1; have BA : Below W.heap.size W w1 := Below.grown (show Below W.heap.size W _ from (by first | exact (Below.refl _ _).drew | exact ((Below.refl _ _).alloc (Nat.le_refl _) _).drew | exact ((Below.refl _ _).drew.alloc (Nat.le_refl _) _))) AP1.grow (Below.size (show Below W.heap.size W _ from (by first | exact (Below.refl _ _).drew | exact ((Below.refl _ _).alloc (Nat.le_refl _) _).drew | exact ((Below.refl _ _).drew.alloc (Nat.le_refl _) _)))) (by intro q hq; simp [Value.ownBlock] at hq; have := Below.size (show Below W.heap.size W _ from (by first | exact (Below.refl _ _).drew | exact ((Below.refl _ _).alloc (Nat.le_refl _) _).drew | exact ((Below.refl _ _).drew.alloc (Nat.le_refl _) _))); omega); obtain ⟨d0, d2⟩ := HC0.out w1 BA)
    | (refine step_append rfl (wp_append_bytes (.tmp 39) (.tmp 40) rfl W.heap.size 1 (.slice (some ⟨W.heap.size, 0, none⟩) 1 1) [.int .u8 (IntKind.u8.wrap c)] (by simp [Act.eval, Act.put]) (ON) ad1 4 cc1 xs1 (by simp [Act.eval, Act.put]) P1.out.len (P1.out.below BC).cells P1.out.one (by omega) (Below.size BC) ?_); intro v1 w1 AP1; have BA : Below W.heap.size W w1 := Below.grown BC AP1.grow (Below.size BC) (by intro q hq; simp [Value.ownBlock] at hq; have := Below.size BC; omega); obtain ⟨d0, d2⟩ := HC0.out w1 BA; have PQ := PO2.kept AP1.grow (by simp [Value.ownBlock]; simp at hge; omega))
    | (refine step_append rfl (wp_append_bytes (.tmp 39) (.tmp 40) rfl W.heap.size 1 (.slice (some ⟨w2.heap.size, 0, none⟩) 1 1) [.int .u8 (IntKind.u8.wrap c)] (by simp [Act.eval, Act.put]) ((partOK_lit w2 _ rfl).mono BC.size) ad1 4 cc1 xs1 (by simp [Act.eval, Act.put]) P1.out.len (P1.out.below (show Below W.heap.size W (w2.alloc _) from BC.alloc BC.size _)).cells P1.out.one (by omega) (Below.size (show Below W.heap.size W (w2.alloc _) from BC.alloc BC.size _)) ?_); intro v1 w1 AP1; have BA : Below W.heap.size W w1 := Below.grown (show Below W.heap.size W (w2.alloc _) from BC.alloc BC.size _) AP1.grow (Below.size (show Below W.heap.size W (w2.alloc _) from BC.alloc BC.size _)) (by intro q hq; simp [Value.ownBlock] at hq; have := Below.size (show Below W.heap.size W (w2.alloc _) from BC.alloc BC.size _); omega); obtain ⟨d0, d2⟩ := HC0.out w1 BA; have PQ := (PO2.below ((Below.refl _ _).alloc (Nat.le_refl _) _)).kept AP1.grow (by have := PO2.lt; simp [Value.ownBlock]; omega))
    | (refine step_append rfl (wp_append_bytes (.tmp 41) (.tmp 44) rfl W.heap.size 5 v1 _ (by simp [Act.eval, Act.put]) ON ad2 (s.size + 2) cc2 xs2 (by simp [Act.eval, Act.put]) PO2.len PO2.cells PO2.one (by have := HSZ.out; omega) BC.size ?_); intro v3 w3 AP3; have B3 : Below W.heap.size W w3 := BC.grown AP3.grow BC.size (fun q hq => (ON.lt q hq).1))
    | (refine step_append rfl (wp_append_bytes (.tmp 41) (.tmp 44) rfl W.heap.size 5 v1 _ (by simp [Act.eval, Act.put]) AP1.own ad2 (s.size + 2) cc2 xs2 (by simp [Act.eval, Act.put]) PQ.len PQ.cells PQ.one (by have := HSZ.out; omega) BA.size ?_); intro v3 w3 AP3; have B3 : Below W.heap.size W w3 := BA.grown AP3.grow BA.size (fun q hq => (AP1.own.lt q hq).1)))
  all_goals
    have HB : Hid (Below w.heap.size w w3) := Lib.hid (HWB.out.trans (B3.mono HWB.out.size))
    clear AP1 AP3 B3 O2 PO2 d0 d2 c0 c2 HC0 HB39
    go_wp2_with fail
    go_ret2
    exact ⟨_, rfl, HB.out⟩
theorem rresponse_s (c v : Int) (s : ByteArray) (hs : s.size ≤ 70000) (w : World) :
    Calls Tryz.prog 22 #[.agg #[.int .i64 c, .int .i64 v, .string s]] w fun e w' => ∃ x, e = .returned (.tuple #[x, .int .i64 (if okR c v s then 0 else 2)]) ∧ Below w.heap.size w w' := by
  by_cases h : okR c v s = true
  · rw [if_pos h]
    simp only [okR, Bool.and_eq_true, decide_eq_true_eq] at h
    exact rresponse_ok c v s h.2 h.1.1.1.1 h.1.1.1.2 h.1.1.2 h.1.2 w
  · rw [if_neg h]
    refine (rresponse_bad c v s hs (by simpa using h) w).mono ?_
    rintro e w' ⟨rfl, hb⟩
    exact ⟨_, rfl, hb⟩
end Go.Proofs.YtcibmhncdgoemaaGreatDoor
namespace Go.Proofs.YtcibmhncdgoemaaGreatDoor
open Go Go.Shelf Go.RowKit Go.Lib Go.Sort Go.Maps

/-- the code that an answer's bytes come with -/
def rcode (c v : Int) (s : ByteArray) : Int := if okR c v s then 0 else 2
theorem response_c (c v : Int) (s : ByteArray) (hs : s.size ≤ 70000) (w : World) :
    Calls Tryz.prog 21 #[.agg #[.int .i64 c, .int .i64 v, .string s]] w fun e w' => ∃ x, e = .returned (.tuple #[x, .int .i64 (rcode c v s)]) ∧ Below w.heap.size w w' := response_s c v s hs w
theorem rresponse_c (c v : Int) (s : ByteArray) (hs : s.size ≤ 70000) (w : World) :
    Calls Tryz.prog 22 #[.agg #[.int .i64 c, .int .i64 v, .string s]] w fun e w' => ∃ x, e = .returned (.tuple #[x, .int .i64 (rcode c v s)]) ∧ Below w.heap.size w w' := rresponse_s c v s hs w
theorem rcode_yes {c v : Int} {s : ByteArray} (h : okR c v s = true) : rcode c v s = 0 := by unfold rcode; rw [if_pos h]
theorem rcode_no {c v : Int} {s : ByteArray} (h : okR c v s = false) : rcode c v s = 2 := by unfold rcode; rw [if_neg (by rw [h]; exact Bool.false_ne_true)]
/-- how often a request's number comes among the first k -/
def cntQ (h : List Dn) (k : Nat) (q : Int) : Nat := ((h.take k).filter fun y => decide (y.q = q)).length
theorem cntQ_zero (h : List Dn) (q : Int) : cntQ h 0 q = 0 := by simp [cntQ]
theorem cntQ_same {h : List Dn} {k : Nat} {x : Dn} (hx : h[k]? = some x) : cntQ h (k + 1) x.q = cntQ h k x.q + 1 := by
  obtain ⟨hl, e⟩ := List.getElem?_eq_some_iff.1 hx
  unfold cntQ
  rw [List.take_succ_eq_append_getElem hl, List.filter_append, e]
  simp
theorem cntQ_other {h : List Dn} {k : Nat} {x : Dn} {q : Int} (hx : h[k]? = some x) (hq : x.q ≠ q) : cntQ h (k + 1) q = cntQ h k q := by
  obtain ⟨hl, e⟩ := List.getElem?_eq_some_iff.1 hx
  unfold cntQ
  rw [List.take_succ_eq_append_getElem hl, List.filter_append, e]
  simp [hq]
theorem cntQ_le (h : List Dn) (k : Nat) (q : Int) : cntQ h k q ≤ k := by
  unfold cntQ
  exact Nat.le_trans (List.length_filter_le _ _) (by simp; omega)
/-- a request's task -/
def taskOf (l : List Rq) (q : Int) : Int := match l[q.toNat]? with | some r => r.t | none => 0
/-- the k-th call speaks against the history -/
def Bad (l : List Rq) (h : List Dn) (k : Nat) (x : Dn) : Prop :=
  okR x.c x.v x.s = false ∨ x.q < 0 ∨ (l.length : Int) ≤ x.q ∨ 1 < cntQ h (k + 1) x.q ∨ x.t ≠ taskOf l x.q ∨ x.b < 0 ∨ (0 ≤ x.e ∧ x.e < x.b) ∨ 100000 < x.m
/-- may a history be? -/
noncomputable def mayB (l : List Rq) (h : List Dn) : Bool := @decide (∀ k x, h[k]? = some x → ¬ Bad l h k x) (Classical.propDecidable _)
theorem mayB_no {l : List Rq} {h : List Dn} {k : Nat} {x : Dn} (hx : h[k]? = some x) (hb : Bad l h k x) : mayB l h = false := @decide_eq_false _ (Classical.propDecidable _) fun H => H k x hx hb
theorem mayB_yes {l : List Rq} {h : List Dn} (H : ∀ k x, h[k]? = some x → ¬ Bad l h k x) : mayB l h = true := @decide_eq_true _ (Classical.propDecidable _) H

/-- what the map says of the first k -/
structure Counts (h : List Dn) (k : Nat) (D : DataW Unit) : Prop where
  map : IsMap D
  at_ : ∀ q : Int, D.atKey (.int .i64 q) (.lit (.int .i64 0)) = .lit (.int .i64 (cntQ h k q))
theorem counts_start (h : List Dn) : Counts h 0 (.map []) := ⟨isMap_empty, fun q => by rw [cntQ_zero]; rfl⟩
theorem counts_step {h : List Dn} {k : Nat} {D : DataW Unit} {x : Dn} (H : Counts h k D) (hx : h[k]? = some x) {z : Int} (hz : z = (cntQ h (k + 1) x.q : Int)) : Counts h (k + 1) (D.put (.int .i64 x.q) (.lit (.int .i64 z))) := by
  refine ⟨H.map.put _ _, fun q => ?_⟩
  by_cases e : x.q = q
  · subst e
    rw [atKey_put_same H.map (by trivial), hz]
  · rw [atKey_put_other (fun he => e (by cases he; rfl)), H.at_, cntQ_other hx e]
theorem keyed3 : Keyed Tryz.prog 3 := int_keyed Tryz.underlying3
theorem zero3 (w : World) : (zeroValue 3).run Tryz.prog w = .ok (.int .i64 0) w := by kernel_rfl
theorem under61 : Tryz.prog.underlying 61 = some (.map 3 3) := by kernel_rfl
theorem own_map_below {w w' : World} {R : Value → Option (DataW Unit × List MemPlace)} {b n : Nat} {D : DataW Unit} (h : w.ownsMap Tryz.prog 3 R b n D) (hb : Below w.heap.size w w') : w'.ownsMap Tryz.prog 3 R b n D := by
  have hl := h.lt
  obtain ⟨es, clock, h1, h2⟩ := h
  exact ⟨es, clock, by rw [hb.block b hl]; exact h1, h2⟩
end Go.Proofs.YtcibmhncdgoemaaGreatDoor
namespace Go.Proofs.YtcibmhncdgoemaaGreatDoor
open Go Go.Shelf Go.RowKit Go.Lib Go.Sort Go.Maps

theorem AtO.kept {w w' : World} {B o : Nat} {x : Dn} {row : Option Nat} (h : AtO w B o x) (hB : B < w.heap.size) (hg : w.grownBy w' row) (hne : some B ≠ row) : AtO w' B o x := by
  have e : ∀ j, w'.cell? ⟨B, j, none⟩ = w.cell? ⟨B, j, none⟩ := fun j => World.cell?_of_block (w := w) (hg.block B hB hne)
  constructor
  · rw [e]; exact h.c0
  · rw [e]; exact h.c1
  · rw [e]; exact h.c2
  · rw [e]; exact h.c3
  · rw [e]; exact h.c4
  · rw [e]; exact h.c5
  · rw [e]; exact h.c6
  · rw [e]; exact h.c7
theorem atO_new (w : World) (x : Dn) : AtO (w.alloc (.cells #[.int .i64 x.q, .int .i64 x.t, .int .i64 x.b, .int .i64 x.e, .int .u64 x.m, .int .i64 x.c, .int .i64 x.v, .string x.s] 31)) w.heap.size 0 x := by
  constructor <;> exact World.cell?_alloc_at _ _ _ _ rfl
set_option maxRecDepth 100000 in
/-- a look-up in the map, in whatever world a drawn region comes to -/
theorem look_any {w : World} {b n : Nat} {D : DataW Unit} {h : List Dn} {k : Nat} (ho : w.ownsMap Tryz.prog 3 (plainElem Tryz.prog 3) b n D) (hc : Counts h k D) {q : Int} (hq : (Lit.int .i64 q).wf = true) (m : Nat) :
    (Instr.lookup 61 (.map (some b)) (.int .i64 q) false).run Tryz.prog (w.drewN m) = .ok (.int .i64 (cntQ h k q : Nat)) (w.drewN m) := by
  obtain ⟨c, hrun, hat, _⟩ := World.ownsMap.lookup_int (w := w.drewN m) (show (w.drewN m).ownsMap Tryz.prog 3 (plainElem Tryz.prog 3) b n D from ho) keyed3 under61 Tryz.underlying3 (zero3 _) (keyOf_int_mk Tryz.underlying3 hq)
  rw [hc.at_] at hat
  injection hat with e1
  injection e1 with _ e2
  rw [hrun, ← e2]

set_option maxHeartbeats 8000000 in
set_option maxRecDepth 1000000 in
theorem may_s (oa ob : Option Addr) (rc n hc H : Nat) (l : List Rq) (gs : List Dn) (hln : l.length = n) (hhn : gs.length = H) (hn : n ≤ 60) (hH : H ≤ 60) (w : World) (hR : 0 < n → ∃ rb ro, oa = some ⟨rb, ro, none⟩ ∧ ReqAt w rb ro l ∧ rb < w.heap.size) (hA : 0 < H → ∃ hb ho, ob = some ⟨hb, ho, none⟩ ∧ HistAt w hb ho gs ∧ hb < w.heap.size)
    (hsz : ∀ x ∈ gs, x.s.size ≤ 70000) (hwf : ∀ x ∈ gs, (Lit.int .i64 x.q).wf = true) :
    Calls Tryz.prog 8 #[.slice oa n rc, .slice ob H hc] w fun e w' => e = .returned (.bool (mayB l gs)) ∧ Below w.heap.size w w' := by
  have hmm := @run_makeMap Tryz.prog
  have HR : Aside _ := hR
  have HA : Aside _ := hA
  have HSZ : Aside _ := hsz
  have HWF : Aside _ := hwf
  have HL := Lib.hid hln
  have HH := Lib.hid hhn
  clear hR hA hsz hwf hln hhn
  go_enter Tryz.func8, Tryz.ntmps8
  go_wp2_with fail
  go_loopw [13] (fun i wr => ∃ (k : Nat) (D : DataW Unit), k ≤ H ∧ i = .int .i64 k ∧ Aside (wr.ownsMap Tryz.prog 3 (plainElem Tryz.prog 3) w.heap.size k D) ∧ Aside (Counts gs k D) ∧ Aside (Below w.heap.size w wr) ∧ Hid (∀ j y, j < k → gs[j]? = some y → ¬ Bad l gs j y)) (fun i _ => H - (RowKit.intOf i).toNat)
  case atStart => exact ⟨0, .map [], Nat.zero_le _, rfl, World.ownsMap_made _ _ _ _, counts_start gs, (Below.refl _ _).alloc (Nat.le_refl _) _, Lib.hid fun j y hj => by omega⟩
  case round =>
    obtain ⟨k, D, hk, rfl, hown, hcnt, hbel, HB⟩ := hrel
    by_cases hlt2 : k < H
    · obtain ⟨hb, ho, rfl, hA, hlt⟩ := HA.out (by omega)
      obtain ⟨⟨xq, xt, xb, xe, xm, xc, xv, xs⟩, hx⟩ : ∃ x, gs[k]? = some x := ⟨gs[k]'(by rw [HH.out]; exact hlt2), List.getElem?_eq_getElem _⟩
      have hat := (hA k _ hx).below hlt hbel.out
      obtain ⟨c0, c1, c2, c3, c4, c5, c6, c7⟩ := hat
      dsimp only at c0 c1 c2 c3 c4 c5 c6 c7
      have HX := Lib.hid hx
      have WF : Hid ((Lit.int .i64 xq).wf = true) := Lib.hid (HWF.out _ (List.mem_of_getElem? hx))
      have SZ : Hid (xs.size ≤ 70000) := Lib.hid (HSZ.out _ (List.mem_of_getElem? hx))
      clear hx hA
      have b1 : (k : Int) < (H : Int) := by omega
      have b0 : (0 : Int) ≤ (k : Int) := by omega
      go_wp2_with (first
        | (at_lookup; refine wpList_lookup_own_int _ rfl _ _ 61 rfl 3 3 .i64 keyed3 under61 Tryz.underlying3 (zero3 _) w.heap.size k D rfl (hown.out.alloc _) _ (.int .i64 xq) rfl (keyOf_int_mk Tryz.underlying3 WF.out) ?_; intro c hatk hwc; refine Hid.out ?_)
        | fail)
      refine Lib.hid ?_
      obtain ⟨nq, hnq⟩ : ∃ nq, nq = cntQ gs k xq := ⟨_, rfl⟩
      have hcq : c = (nq : Int) := by
        rw [hcnt.out.at_, ← hnq] at hatk
        injection hatk with e1
        injection e1 with _ e2
        exact e2.symm
      subst hcq
      have hnk : nq ≤ k := by rw [hnq]; exact cntQ_le _ _ _
      have hsuc : Hid ((nq : Int) + 1 = ((cntQ gs (k + 1) xq : Nat) : Int)) := Lib.hid (by rw [show cntQ gs (k + 1) xq = cntQ gs k xq + 1 from cntQ_same HX.out, ← hnq]; omega)
      have WF2 : Hid ((Lit.int .i64 ((nq : Int) + 1)).wf = true) := Lib.hid (WalkArith.wf_i64 (by omega))
      clear hatk hwc hnq
      have hlt3 := hown.out.lt
      have HLT3 := Lib.hid hlt3
      clear hlt3
      go_wp2_with (first
        | (at_mapUpdate; refine wpList_mapUpdate_own _ rfl _ _ _ 61 rfl 3 3 keyed3 under61 _ w.heap.size k D rfl (hown.out.alloc _) (by unfold maxLen; omega) _ _ (.int .i64 xq) rfl rfl (keyOf_int_mk Tryz.underlying3 WF.out) (.lit (.int .i64 ((nq : Int) + 1))) [] (plainElem_int Tryz.underlying3 WF2.out) ?_; intro w1 hown1 hgrow1; refine Hid.out ?_)
        | fail)
      refine Lib.hid ?_
      have hat1 : AtO w1 wr.heap.size 0 ⟨xq, xt, xb, xe, xm, xc, xv, xs⟩ := (atO_new wr ⟨xq, xt, xb, xe, xm, xc, xv, xs⟩).kept (by simp) hgrow1 (by have := HLT3.out; simp; omega)
      have hb1 : Below w.heap.size w w1 := (hbel.out.alloc hbel.out.size _).grown hgrow1 (by have := HLT3.out; simp; omega) (fun j hj => by cases hj; exact Nat.le_refl _)
      have hc1 : Counts gs (k + 1) _ := counts_step hcnt.out HX.out hsuc.out
      have hlt1 : wr.heap.size < w1.heap.size := by have := hgrow1.size; simp at this; omega
      have HAT1 := Lib.hid hat1
      have HB1 := Lib.hid hb1
      have HC1 := Lib.hid hc1
      have HO1 := Lib.hid hown1
      have HLT1 := Lib.hid hlt1
      clear hat1 hb1 hc1 hown1 hgrow1 hlt1 hown hcnt hbel hsuc WF2 HLT3 c0 c1 c2 c3 c4 c5 c6 c7
      have d5 := HAT1.out.c5
      have d6 := HAT1.out.c6
      have d7 := HAT1.out.c7
      simp only [Nat.zero_add] at d5 d6 d7
      have HRS := Lib.hid (fun w => response_c xc xv xs SZ.out w)
      go_wp2_with (go_at_call 21; refine (HRS.out _).mono ?_; rintro e w2 ⟨vr, rfl, hb2⟩; refine Hid.out ?_)
      refine Lib.hid ?_
      have hat2 := HAT1.out.below HLT1.out hb2
      have HO2 := Lib.hid (own_map_below HO1.out hb2)
      have HB2 := Lib.hid (HB1.out.trans (hb2.mono HB1.out.size))
      clear hb2 HAT1 HB1 HO1 HLT1 d5 d6 d7 HRS
      obtain ⟨c0, c1, c2, c3, c4, c5, c6, c7⟩ := hat2
      simp only [Nat.zero_add] at c0 c1 c2 c3 c4 c5 c6 c7
      generalize hcd : rcode xc xv xs = cd
      have HCD := Lib.hid hcd
      clear hcd
      obtain ⟨cn, hcn⟩ : ∃ cn, cn = cntQ gs (k + 1) xq := ⟨_, rfl⟩
      have HCN := Lib.hid hcn
      have HLK : Hid (∀ m, (Instr.lookup 61 (.map (some w.heap.size)) (.int .i64 xq) false).run Tryz.prog (w2.drewN m) = .ok (.int .i64 (cn : Int)) (w2.drewN m)) := Lib.hid (fun m => by rw [hcn]; exact look_any HO2.out HC1.out WF.out m)
      clear hcn
      cases hok : okR xc xv xs
      · have hcd : cd = 2 := by rw [← HCD.out]; exact rcode_no hok
        subst hcd
        have HOK := Lib.hid hok
        clear hok HCD HLK
        go_wp2_with fail
        go_quiet (fail)
        go_wp2_with fail
        go_ret
        exact ⟨by rw [mayB_no HX.out (Or.inl HOK.out)]; rfl, below_drewN HB2.out _⟩
      have hcd : cd = 0 := by rw [← HCD.out]; exact rcode_yes hok
      subst hcd
      have HOK := Lib.hid hok
      clear hok HCD
      by_cases q1 : xq < 0
      · clear HLK
        go_wp2_with fail
        go_quiet (fail)
        go_wp2_with fail
        go_ret
        exact ⟨by rw [mayB_no HX.out (Or.inr (Or.inl q1))]; rfl, below_drewN HB2.out _⟩
      have q1' : decide (xq < 0) = false := decide_eq_false q1
      have Q1 := Lib.hid q1
      clear q1
      by_cases q2 : (n : Int) ≤ xq
      · clear HLK
        go_wp2_with fail
        go_quiet (fail)
        go_wp2_with fail
        go_ret
        exact ⟨by rw [mayB_no HX.out (Or.inr (Or.inr (Or.inl (by rw [HL.out]; exact q2))))]; rfl, below_drewN HB2.out _⟩
      have lk := HLK.out
      have Q2 := Lib.hid q2
      have q2' : decide (xq ≥ (n : Int)) = false := decide_eq_false q2
      clear HLK q2
      by_cases q3 : 1 < cn
      · have q3' : (1 : Int) < (cn : Int) := by omega
        go_wp2_with fail
        go_quiet (fail)
        go_wp2_with fail
        go_ret
        exact ⟨by rw [mayB_no HX.out (Or.inr (Or.inr (Or.inr (Or.inl (by rw [← show cn = cntQ gs (k + 1) xq from HCN.out]; exact q3)))))]; rfl, below_drewN HB2.out _⟩
      have q3' : decide ((cn : Int) > 1) = false := decide_eq_false (by omega)
      obtain ⟨qn, rfl⟩ : ∃ qn : Nat, xq = qn := ⟨xq.toNat, by have := Q1.out; omega⟩
      have hqn : qn < n := by have := Q2.out; omega
      obtain ⟨⟨rt, rd, rs⟩, hrq⟩ : ∃ r, l[qn]? = some r := ⟨l[qn]'(by rw [HL.out]; exact hqn), List.getElem?_eq_getElem _⟩
      have Q3 := Lib.hid q3
      obtain ⟨rb, ro, rfl, hR, hltr⟩ := HR.out (by omega)
      have e1 : w2.cell? ⟨rb, ro + qn * 3, none⟩ = some (.int .i64 rt) := by rw [HB2.out.cell (p := ⟨rb, ro + qn * 3, none⟩) hltr]; exact (hR qn _ hrq).1
      have HT : Hid (taskOf l (qn : Int) = rt) := Lib.hid (by unfold taskOf; rw [show ((qn : Int)).toNat = qn by omega, hrq])
      clear hrq q3 hR hltr
      have q4 : (qn : Int) < (n : Int) := by omega
      have q4' : decide (n ≤ qn) = false := decide_eq_false (by omega)
      by_cases q5 : ¬ xt = rt
      · have q5' : (xt != rt) = true := bne_iff_ne.2 q5
        have Q5 := Lib.hid q5
        clear q5
        go_wp2_with fail
        go_quiet (fail)
        go_wp2_with fail
        go_ret
        exact ⟨by rw [mayB_no HX.out (Or.inr (Or.inr (Or.inr (Or.inr (Or.inl (by show xt ≠ taskOf l (qn : Int); rw [HT.out]; exact Q5.out))))))]; rfl, below_drewN HB2.out _⟩
      have q5 : xt = rt := Decidable.not_not.1 q5
      subst q5
      by_cases q6 : xb < 0
      · skip
        go_wp2_with fail
        go_quiet (fail)
        go_wp2_with fail
        go_ret
        exact ⟨by rw [mayB_no HX.out (Or.inr (Or.inr (Or.inr (Or.inr (Or.inr (Or.inl q6))))))]; rfl, below_drewN HB2.out _⟩
      have Q6 := Lib.hid q6
      have q6' : decide (xb < 0) = false := decide_eq_false q6
      clear q6
      by_cases q7 : 0 ≤ xe
      · by_cases q8 : xe < xb
        · skip
          go_wp2_with fail
          go_quiet (fail)
          go_wp2_with fail
          go_ret
          exact ⟨by rw [mayB_no HX.out (Or.inr (Or.inr (Or.inr (Or.inr (Or.inr (Or.inr (Or.inl ⟨q7, q8⟩)))))))]; rfl, below_drewN HB2.out _⟩
        have Q8 := Lib.hid q8
        have q8' : decide (xe < xb) = false := decide_eq_false q8
        clear q8
        by_cases q9 : 100000 < xm
        · skip
          go_wp2_with fail
          go_quiet (fail)
          go_wp2_with fail
          go_ret
          exact ⟨by rw [mayB_no HX.out (Or.inr (Or.inr (Or.inr (Or.inr (Or.inr (Or.inr (Or.inr (q9))))))))]; rfl, below_drewN HB2.out _⟩
        · have Q7 : Hid (¬ (0 ≤ xe ∧ xe < xb)) := Lib.hid fun z => Q8.out z.2
          have Q9 := Lib.hid q9
          clear q9
          have HNB : Hid (¬ Bad l gs k ⟨(qn : Int), xt, xb, xe, xm, xc, xv, xs⟩) := Lib.hid fun hbad => by
            rcases hbad with z | z | z | z | z | z | z | z
            · rw [HOK.out] at z; cases z
            · exact Q1.out z
            · rw [HL.out] at z; exact Q2.out z
            · rw [← show cn = cntQ gs (k + 1) (qn : Int) from HCN.out] at z; exact Q3.out z
            · rw [show taskOf l (qn : Int) = xt from HT.out] at z; exact z rfl
            · exact Q6.out z
            · exact Q7.out z
            · exact Q9.out z
          have q9' : decide (xm > 100000) = false := decide_eq_false Q9.out
          go_wp2_with fail
          go_quiet (fail)
          go_wp2_with fail
          go_roundw
          case rel =>
            exact ⟨k + 1, _, by omega, by go_num, HO2.out, HC1.out, below_drewN HB2.out _, Lib.hid fun j y hj hy => by
              by_cases e : j = k
              · subst e
                rw [HX.out] at hy
                cases hy
                exact HNB.out
              · exact HB.out j y (by omega) hy⟩
          case measure => simp [RowKit.intOf]; omega
      · have Q7' := Lib.hid q7
        have q7' : decide (xe ≥ 0) = false := decide_eq_false q7
        clear q7
        by_cases q9 : 100000 < xm
        · skip
          go_wp2_with fail
          go_quiet (fail)
          go_wp2_with fail
          go_ret
          exact ⟨by rw [mayB_no HX.out (Or.inr (Or.inr (Or.inr (Or.inr (Or.inr (Or.inr (Or.inr (q9))))))))]; rfl, below_drewN HB2.out _⟩
        · have Q7 : Hid (¬ (0 ≤ xe ∧ xe < xb)) := Lib.hid fun z => Q7'.out z.1
          have Q9 := Lib.hid q9
          clear q9
          have HNB : Hid (¬ Bad l gs k ⟨(qn : Int), xt, xb, xe, xm, xc, xv, xs⟩) := Lib.hid fun hbad => by
            rcases hbad with z | z | z | z | z | z | z | z
            · rw [HOK.out] at z; cases z
            · exact Q1.out z
            · rw [HL.out] at z; exact Q2.out z
            · rw [← show cn = cntQ gs (k + 1) (qn : Int) from HCN.out] at z; exact Q3.out z
            · rw [show taskOf l (qn : Int) = xt from HT.out] at z; exact z rfl
            · exact Q6.out z
            · exact Q7.out z
            · exact Q9.out z
          have q9' : decide (xm > 100000) = false := decide_eq_false Q9.out
          go_wp2_with fail
          go_quiet (fail)
          go_wp2_with fail
          go_roundw
          case rel =>
            exact ⟨k + 1, _, by omega, by go_num, HO2.out, HC1.out, below_drewN HB2.out _, Lib.hid fun j y hj hy => by
              by_cases e : j = k
              · subst e
                rw [HX.out] at hy
                cases hy
                exact HNB.out
              · exact HB.out j y (by omega) hy⟩
          case measure => simp [RowKit.intOf]; omega
    · obtain rfl : k = H := by omega
      go_wp2_with fail
      go_ret
      refine ⟨?_, hbel.out⟩
      rw [mayB_yes fun j y hy => HB.out j y (by have := (List.getElem?_eq_some_iff.1 hy).1; rw [HH.out] at this; exact this) hy]
      rfl
end Go.Proofs.YtcibmhncdgoemaaGreatDoor
namespace Go.Proofs.YtcibmhncdgoemaaGreatDoor
open Go Go.Shelf Go.RowKit Go.Lib Go.Sort Go.Maps

theorem cntQ_two {h : List Dn} {k m : Nat} {x y : Dn} (hx : h[k]? = some x) (hm : m < k) (hy : h[m]? = some y) (e : y.q = x.q) : 1 < cntQ h (k + 1) x.q := by
  have h1 : cntQ h (m + 1) x.q = cntQ h m x.q + 1 := by rw [← e]; exact cntQ_same hy
  rw [cntQ_same hx]
  have mono : ∀ d, cntQ h (m + 1) x.q ≤ cntQ h (m + 1 + d) x.q := by
    intro d
    induction d with
    | zero => exact Nat.le_refl _
    | succ d ih =>
      refine Nat.le_trans ih ?_
      unfold cntQ
      refine List.Sublist.length_le (List.Sublist.filter _ ?_)
      exact (List.take_prefix_take_left (by omega)).sublist
  have := mono (k - (m + 1))
  rw [show m + 1 + (k - (m + 1)) = k by omega] at this
  omega
theorem cntQ_none {h : List Dn} {q : Int} : ∀ {k : Nat}, (∀ j y, j < k → h[j]? = some y → y.q ≠ q) → cntQ h k q = 0
  | 0, _ => cntQ_zero h q
  | k + 1, H => by
    have ih := cntQ_none (h := h) (q := q) (k := k) fun j y hj => H j y (by omega)
    cases hx : h[k]? with
    | some x => rw [cntQ_other hx (H k x (by omega) hx)]; exact ih
    | none =>
      unfold cntQ at ih ⊢
      rw [List.take_of_length_le (by have := List.getElem?_eq_none_iff.1 hx; omega)] at ih ⊢
      exact ih
theorem cntQ_one {h : List Dn} {k : Nat} {x : Dn} (hx : h[k]? = some x) (H : ∀ j y, j < k → h[j]? = some y → y.q ≠ x.q) : ¬ 1 < cntQ h (k + 1) x.q := by
  rw [cntQ_same hx, cntQ_none H]
  omega

set_option maxHeartbeats 8000000 in
set_option maxRecDepth 1000000 in
theorem rmay_s (oa ob : Option Addr) (rc n hc H : Nat) (l : List Rq) (gs : List Dn) (hln : l.length = n) (hhn : gs.length = H) (hn : n ≤ 60) (hH : H ≤ 60) (w : World) (hR : 0 < n → ∃ rb ro, oa = some ⟨rb, ro, none⟩ ∧ ReqAt w rb ro l ∧ rb < w.heap.size) (hA : 0 < H → ∃ hb ho, ob = some ⟨hb, ho, none⟩ ∧ HistAt w hb ho gs ∧ hb < w.heap.size)
    (hsz : ∀ x ∈ gs, x.s.size ≤ 70000) :
    Calls Tryz.prog 9 #[.slice oa n rc, .slice ob H hc] w fun e w' => e = .returned (.bool (mayB l gs)) ∧ Below w.heap.size w w' := by
  have HR : Aside _ := hR
  have HA : Aside _ := hA
  have HSZ : Aside _ := hsz
  have HL := Lib.hid hln
  have HH := Lib.hid hhn
  clear hR hA hsz hln hhn
  go_enter Tryz.func9, Tryz.ntmps9
  go_wp2_with fail
  go_loopw [5] (fun i wr => ∃ (k : Nat), k ≤ H ∧ i = .int .i64 k ∧ Aside (Below w.heap.size w wr) ∧ Hid (∀ j y, j < k → gs[j]? = some y → ¬ Bad l gs j y)) (fun i _ => H - (RowKit.intOf i).toNat)
  case atStart => exact ⟨0, Nat.zero_le _, rfl, Below.refl _ _, Lib.hid fun j y hj => by omega⟩
  case round =>
    obtain ⟨k, hk, rfl, hbel, HB⟩ := hrel
    by_cases hlt2 : k < H
    · obtain ⟨hb, ho, rfl, hA, hlt⟩ := HA.out (by omega)
      obtain ⟨⟨xq, xt, xb, xe, xm, xc, xv, xs⟩, hx⟩ : ∃ x, gs[k]? = some x := ⟨gs[k]'(by rw [HH.out]; exact hlt2), List.getElem?_eq_getElem _⟩
      have HAW : Aside _ := hA.below hlt hbel.out
      have HLT := Lib.hid (Nat.lt_of_lt_of_le hlt hbel.out.size)
      have hat := (hA k _ hx).below hlt hbel.out
      obtain ⟨c0, c1, c2, c3, c4, c5, c6, c7⟩ := hat
      dsimp only at c0 c1 c2 c3 c4 c5 c6 c7
      have HX := Lib.hid hx
      have SZ : Hid (xs.size ≤ 70000) := Lib.hid (HSZ.out _ (List.mem_of_getElem? hx))
      clear hx hA hlt
      have b1 : (k : Int) < (H : Int) := by omega
      have b0 : (0 : Int) ≤ (k : Int) := by omega
      have HRS := Lib.hid (fun w => rresponse_c xc xv xs SZ.out w)
      go_wp2_with (go_at_call 22; refine (HRS.out _).mono ?_; rintro e w2 ⟨vr, rfl, hb2⟩; refine Hid.out ?_)
      refine Lib.hid ?_
      have HBW : Below wr.heap.size wr w2 := ((Below.refl _ wr).alloc (Nat.le_refl _) _).trans (hb2.mono (by simp))
      have hat2 : AtO w2 wr.heap.size 0 ⟨xq, xt, xb, xe, xm, xc, xv, xs⟩ := (atO_new wr ⟨xq, xt, xb, xe, xm, xc, xv, xs⟩).below (by simp) hb2
      have HB2 : Hid (Below w.heap.size w w2) := Lib.hid (hbel.out.trans (HBW.mono hbel.out.size))
      have HA2 : Aside (HistAt w2 hb ho gs) := HistAt.below HAW.out HLT.out HBW
      clear hb2 HBW HAW HRS hbel c0 c1 c2 c3 c4 c5 c6 c7
      obtain ⟨c0, c1, c2, c3, c4, c5, c6, c7⟩ := hat2
      simp only [Nat.zero_add] at c0 c1 c2 c3 c4 c5 c6 c7
      generalize hcd : rcode xc xv xs = cd
      have HCD := Lib.hid hcd
      clear hcd
      cases hok : okR xc xv xs
      · have hcd : cd = 2 := by rw [← HCD.out]; exact rcode_no hok
        subst hcd
        have HOK := Lib.hid hok
        clear hok HCD
        go_wp2_with fail
        go_quiet (fail)
        go_wp2_with fail
        go_ret
        exact ⟨by rw [mayB_no HX.out (Or.inl (HOK.out))]; rfl, below_drewN HB2.out _⟩
      have hcd : cd = 0 := by rw [← HCD.out]; exact rcode_yes hok
      subst hcd
      have HOK := Lib.hid hok
      clear hok HCD
      by_cases q1 : xq < 0
      · skip
        go_wp2_with fail
        go_quiet (fail)
        go_wp2_with fail
        go_ret
        exact ⟨by rw [mayB_no HX.out (Or.inr (Or.inl (q1)))]; rfl, below_drewN HB2.out _⟩
      have q1' : decide (xq < 0) = false := decide_eq_false q1
      have Q1 := Lib.hid q1
      clear q1
      by_cases q2 : (n : Int) ≤ xq
      · skip
        go_wp2_with fail
        go_quiet (fail)
        go_wp2_with fail
        go_ret
        exact ⟨by rw [mayB_no HX.out (Or.inr (Or.inr (Or.inl (by rw [HL.out]; exact q2))))]; rfl, below_drewN HB2.out _⟩
      have Q2 := Lib.hid q2
      have q2' : decide (xq ≥ (n : Int)) = false := decide_eq_false q2
      clear q2
      obtain ⟨qn, rfl⟩ : ∃ qn : Nat, xq = qn := ⟨xq.toNat, by have := Q1.out; omega⟩
      have hqn : qn < n := by have := Q2.out; omega
      obtain ⟨⟨rt, rd, rs⟩, hrq⟩ : ∃ r, l[qn]? = some r := ⟨l[qn]'(by rw [HL.out]; exact hqn), List.getElem?_eq_getElem _⟩
      obtain ⟨rb, ro, rfl, hR, hltr⟩ := HR.out (by omega)
      have e1 : w2.cell? ⟨rb, ro + qn * 3, none⟩ = some (.int .i64 rt) := by rw [HB2.out.cell (p := ⟨rb, ro + qn * 3, none⟩) hltr]; exact (hR qn _ hrq).1
      have HT : Hid (taskOf l (qn : Int) = rt) := Lib.hid (by unfold taskOf; rw [show ((qn : Int)).toNat = qn by omega, hrq])
      clear hrq hR hltr
      have q4 : (qn : Int) < (n : Int) := by omega
      have q4' : decide (n ≤ qn) = false := decide_eq_false (by omega)
      by_cases q5 : ¬ xt = rt
      · have q5' : (xt != rt) = true := bne_iff_ne.2 q5
        have Q5 := Lib.hid q5
        clear q5
        go_wp2_with fail
        go_quiet (fail)
        go_wp2_with fail
        go_ret
        exact ⟨by rw [mayB_no HX.out (Or.inr (Or.inr (Or.inr (Or.inr (Or.inl (by show xt ≠ taskOf l (qn : Int); rw [HT.out]; exact Q5.out))))))]; rfl, below_drewN HB2.out _⟩
      have q5 : xt = rt := Decidable.not_not.1 q5
      subst q5
      by_cases q6 : xb < 0
      · skip
        go_wp2_with fail
        go_quiet (fail)
        go_wp2_with fail
        go_ret
        exact ⟨by rw [mayB_no HX.out (Or.inr (Or.inr (Or.inr (Or.inr (Or.inr (Or.inl (q6)))))))]; rfl, below_drewN HB2.out _⟩
      have Q6 := Lib.hid q6
      have q6' : decide (xb < 0) = false := decide_eq_false q6
      clear q6
      by_cases q7 : 0 ≤ xe
      · by_cases q8 : xe < xb
        · skip
          go_wp2_with fail
          go_quiet (fail)
          go_wp2_with fail
          go_ret
          exact ⟨by rw [mayB_no HX.out (Or.inr (Or.inr (Or.inr (Or.inr (Or.inr (Or.inr (Or.inl (⟨q7, q8⟩))))))))]; rfl, below_drewN HB2.out _⟩
        have Q8 := Lib.hid q8
        have q8' : decide (xe < xb) = false := decide_eq_false q8
        clear q8
        by_cases q9 : 100000 < xm
        · skip
          go_wp2_with fail
          go_quiet (fail)
          go_wp2_with fail
          go_ret
          exact ⟨by rw [mayB_no HX.out (Or.inr (Or.inr (Or.inr (Or.inr (Or.inr (Or.inr (Or.inr (q9))))))))]; rfl, below_drewN HB2.out _⟩
        · have Q9 := Lib.hid q9
          clear q9
          have Q7 : Hid (¬ (0 ≤ xe ∧ xe < xb)) := Lib.hid fun z => Q8.out z.2
          have q9' : decide (xm > 100000) = false := decide_eq_false Q9.out
          have d0 := c0
          go_wp2_with fail
          go_quiet (fail)
          go_wp2_with fail
          go_loopw [9] (fun kk wr2 => ∃ (m q : Nat), m ≤ k ∧ kk = .int .i64 m ∧ wr2 = w2.drewN q ∧ Hid (∀ j y, j < m → gs[j]? = some y → y.q ≠ (qn : Int))) (fun kk _ => k - (RowKit.intOf kk).toNat)
          case atStart => exact ⟨0, _, Nat.zero_le _, rfl, rfl, Lib.hid fun j y hj => by omega⟩
          case round =>
            obtain ⟨m, q, hm, rfl, rfl, HM⟩ := hrel
            by_cases hmk : m < k
            · obtain ⟨y, hy⟩ : ∃ y, gs[m]? = some y := ⟨gs[m]'(by rw [HH.out]; omega), List.getElem?_eq_getElem _⟩
              have cm := (HA2.out m y hy).c0
              have HY := Lib.hid hy
              clear hy
              have b2 : (m : Int) < (k : Int) := by omega
              have b3 : (m : Int) < (H : Int) := by omega
              have b4 : (0 : Int) ≤ (m : Int) := by omega
              by_cases hq : y.q = (qn : Int)
              · have hq' : decide (y.q = (qn : Int)) = true := decide_eq_true hq
                have HQ := Lib.hid hq
                rw [hq] at cm
                clear hq hq'
                go_wp2_with fail
                go_quiet (fail)
                go_wp2_with fail
                go_ret
                exact ⟨by rw [mayB_no HX.out (Or.inr (Or.inr (Or.inr (Or.inl (cntQ_two HX.out hmk HY.out HQ.out)))))]; rfl, below_drewN (below_drewN HB2.out _) _⟩
              · have hq' : (y.q == (qn : Int)) = false := by simpa using hq
                have HQ := Lib.hid hq
                go_wp2_with fail
                go_quiet (fail)
                go_wp2_with fail
                go_roundw
                case rel =>
                  exact ⟨m + 1, _, by omega, by go_num, rfl, Lib.hid fun j z hj hz => by
                    by_cases e : j = m
                    · subst e
                      rw [HY.out] at hz
                      cases hz
                      exact HQ.out
                    · exact HM.out j z (by omega) hz⟩
                case measure => simp [RowKit.intOf]; omega
            · obtain rfl : m = k := by omega
              have HNB : Hid (¬ Bad l gs m ⟨(qn : Int), xt, xb, xe, xm, xc, xv, xs⟩) := Lib.hid fun hbad => by
                rcases hbad with z | z | z | z | z | z | z | z
                · rw [HOK.out] at z; cases z
                · have z' : (qn : Int) < 0 := z; have := Q1.out; omega
                · rw [HL.out] at z; have z' : (n : Int) ≤ (qn : Int) := z; have := Q2.out; omega
                · exact cntQ_one HX.out HM.out z
                · rw [show taskOf l (qn : Int) = xt from HT.out] at z; exact z rfl
                · have z' : xb < 0 := z; have := Q6.out; omega
                · exact Q7.out z
                · have z' : 100000 < xm := z; have := Q9.out; omega
              go_wp2_with fail
              go_roundw
              case rel =>
                exact ⟨m + 1, by omega, by go_num, below_drewN HB2.out _, Lib.hid fun j y hj hy => by
                  by_cases e : j = m
                  · subst e
                    rw [HX.out] at hy
                    cases hy
                    exact HNB.out
                  · exact HB.out j y (by omega) hy⟩
              case measure => simp [RowKit.intOf]; omega
      · have Q7' := Lib.hid q7
        have q7' : decide (xe ≥ 0) = false := decide_eq_false q7
        clear q7
        by_cases q9 : 100000 < xm
        · skip
          go_wp2_with fail
          go_quiet (fail)
          go_wp2_with fail
          go_ret
          exact ⟨by rw [mayB_no HX.out (Or.inr (Or.inr (Or.inr (Or.inr (Or.inr (Or.inr (Or.inr (q9))))))))]; rfl, below_drewN HB2.out _⟩
        · have Q9 := Lib.hid q9
          clear q9
          have Q7 : Hid (¬ (0 ≤ xe ∧ xe < xb)) := Lib.hid fun z => Q7'.out z.1
          have q9' : decide (xm > 100000) = false := decide_eq_false Q9.out
          have d0 := c0
          go_wp2_with fail
          go_quiet (fail)
          go_wp2_with fail
          go_loopw [9] (fun kk wr2 => ∃ (m q : Nat), m ≤ k ∧ kk = .int .i64 m ∧ wr2 = w2.drewN q ∧ Hid (∀ j y, j < m → gs[j]? = some y → y.q ≠ (qn : Int))) (fun kk _ => k - (RowKit.intOf kk).toNat)
          case atStart => exact ⟨0, _, Nat.zero_le _, rfl, rfl, Lib.hid fun j y hj => by omega⟩
          case round =>
            obtain ⟨m, q, hm, rfl, rfl, HM⟩ := hrel
            by_cases hmk : m < k
            · obtain ⟨y, hy⟩ : ∃ y, gs[m]? = some y := ⟨gs[m]'(by rw [HH.out]; omega), List.getElem?_eq_getElem _⟩
              have cm := (HA2.out m y hy).c0
              have HY := Lib.hid hy
              clear hy
              have b2 : (m : Int) < (k : Int) := by omega
              have b3 : (m : Int) < (H : Int) := by omega
              have b4 : (0 : Int) ≤ (m : Int) := by omega
              by_cases hq : y.q = (qn : Int)
              · have hq' : decide (y.q = (qn : Int)) = true := decide_eq_true hq
                have HQ := Lib.hid hq
                rw [hq] at cm
                clear hq hq'
                go_wp2_with fail
                go_quiet (fail)
                go_wp2_with fail
                go_ret
                exact ⟨by rw [mayB_no HX.out (Or.inr (Or.inr (Or.inr (Or.inl (cntQ_two HX.out hmk HY.out HQ.out)))))]; rfl, below_drewN (below_drewN HB2.out _) _⟩
              · have hq' : (y.q == (qn : Int)) = false := by simpa using hq
                have HQ := Lib.hid hq
                go_wp2_with fail
                go_quiet (fail)
                go_wp2_with fail
                go_roundw
                case rel =>
                  exact ⟨m + 1, _, by omega, by go_num, rfl, Lib.hid fun j z hj hz => by
                    by_cases e : j = m
                    · subst e
                      rw [HY.out] at hz
                      cases hz
                      exact HQ.out
                    · exact HM.out j z (by omega) hz⟩
                case measure => simp [RowKit.intOf]; omega
            · obtain rfl : m = k := by omega
              have HNB : Hid (¬ Bad l gs m ⟨(qn : Int), xt, xb, xe, xm, xc, xv, xs⟩) := Lib.hid fun hbad => by
                rcases hbad with z | z | z | z | z | z | z | z
                · rw [HOK.out] at z; cases z
                · have z' : (qn : Int) < 0 := z; have := Q1.out; omega
                · rw [HL.out] at z; have z' : (n : Int) ≤ (qn : Int) := z; have := Q2.out; omega
                · exact cntQ_one HX.out HM.out z
                · rw [show taskOf l (qn : Int) = xt from HT.out] at z; exact z rfl
                · have z' : xb < 0 := z; have := Q6.out; omega
                · exact Q7.out z
                · have z' : 100000 < xm := z; have := Q9.out; omega
              go_wp2_with fail
              go_roundw
              case rel =>
                exact ⟨m + 1, by omega, by go_num, below_drewN HB2.out _, Lib.hid fun j y hj hy => by
                  by_cases e : j = m
                  · subst e
                    rw [HX.out] at hy
                    cases hy
                    exact HNB.out
                  · exact HB.out j y (by omega) hy⟩
              case measure => simp [RowKit.intOf]; omega
    · obtain rfl : k = H := by omega
      go_wp2_with fail
      go_ret
      refine ⟨?_, hbel.out⟩
      rw [mayB_yes fun j y hy => HB.out j y (by have := (List.getElem?_eq_some_iff.1 hy).1; rw [HH.out] at this; exact this) hy]
      rfl
end Go.Proofs.YtcibmhncdgoemaaGreatDoor
namespace Go.Proofs.YtcibmhncdgoemaaGreatDoor
open Go Go.Shelf Go.RowKit Go.Lib Go.Sort Go.Maps

set_option maxRecDepth 100000 in
theorem short_zero (oa : Option Addr) (rc : Nat) (w : World) : Calls Tryz.prog 6 #[.slice oa 0 rc] w fun e w' => e = .returned (.bool true) ∧ w' = w := by
  go_enter Tryz.func6, Tryz.ntmps6
  go_wp2_with fail
  refine wp_loop_rounds 1 ?_
  rw [rounds_succ]
  go_wp2_with fail
  go_ret
  exact ⟨rfl, rfl⟩
set_option maxRecDepth 100000 in
theorem byEnds_zero (ob : Option Addr) (hc : Nat) (w : World) : Calls Tryz.prog 11 #[.slice ob 0 hc] w fun e w' => e = .returned (.slice none 0 0) ∧ w' = w := by
  have hmf : ∀ (fn : Fn) (first cap : Array Value) (w : World), (Instr.makeFunc fn first cap).run Tryz.prog w = .ok (.func fn first cap) w := fun _ _ _ _ => rfl
  go_enter Tryz.func11, Tryz.ntmps11
  go_wp2_with fail
  refine wp_loop_rounds 1 ?_
  rw [rounds_succ]
  go_wp2_with (go_at_call 23; refine (sortStable_nil _ _).mono ?_; rintro e w' ⟨rfl, rfl⟩)
  go_ret
  exact ⟨rfl, rfl⟩
set_option maxRecDepth 100000 in
theorem rbyEnds_zero (ob : Option Addr) (hc : Nat) (w : World) : Calls Tryz.prog 12 #[.slice ob 0 hc] w fun e w' => e = .returned (.slice none 0 0) ∧ w' = w := by
  go_enter Tryz.func12, Tryz.ntmps12
  go_wp2_with fail
  refine wp_loop_rounds 1 ?_
  rw [rounds_succ]
  go_wp2_with fail
  go_ret
  exact ⟨rfl, rfl⟩

theorem ends_unique {l : List Dn} {r r' : List Nat} (h : IsEnds l r) (h' : IsEnds l r') : r = r' := by
  refine List.Perm.eq_of_pairwise ?_ h.sorted h'.sorted (h.perm.trans h'.perm.symm)
  intro a b _ _ h1 h2
  simp only [ltX, decide_eq_false_iff_not] at h1 h2
  omega
theorem ends_nil {r : List Nat} (h : IsEnds [] r) : r = [] := by
  have := h.perm.length_eq
  have e : ended [] 0 = [] := rfl
  rw [show ([] : List Dn).length = 0 from rfl, e] at this
  exact List.length_eq_zero_iff.1 (by simpa using this)

/-- where a list of requests lies -/
def ReqSl (w : World) (oa : Option Addr) (n : Nat) (l : List Rq) : Prop := 0 < n → ∃ rb ro, oa = some ⟨rb, ro, none⟩ ∧ ReqAt w rb ro l ∧ rb < w.heap.size
/-- where a history lies -/
def HistSl (w : World) (ob : Option Addr) (H : Nat) (gs : List Dn) : Prop := 0 < H → ∃ hb ho, ob = some ⟨hb, ho, none⟩ ∧ HistAt w hb ho gs ∧ hb < w.heap.size
theorem ReqSl.below {w w' : World} {oa : Option Addr} {n : Nat} {l : List Rq} (h : ReqSl w oa n l) (hb : Below w.heap.size w w') : ReqSl w' oa n l := fun h0 => by
  obtain ⟨rb, ro, e, hA, hlt⟩ := h h0
  refine ⟨rb, ro, e, fun k x hx => ?_, Nat.lt_of_lt_of_le hlt hb.size⟩
  rw [hb.cell (p := ⟨rb, ro + k * 3, none⟩) hlt, hb.cell (p := ⟨rb, ro + k * 3 + 2, none⟩) hlt]
  exact hA k x hx
theorem HistSl.below {w w' : World} {ob : Option Addr} {H : Nat} {gs : List Dn} (h : HistSl w ob H gs) (hb : Below w.heap.size w w') : HistSl w' ob H gs := fun h0 => by
  obtain ⟨b, o, e, hA, hlt⟩ := h h0
  exact ⟨b, o, e, hA.below hlt hb, Nat.lt_of_lt_of_le hlt hb.size⟩
theorem short_any (oa : Option Addr) (rc n : Nat) (l : List Rq) (hl : l.length = n) (hn : n < 1000) (w : World) (hR : ReqSl w oa n l) (hsz : ∀ x ∈ l, x.s.size ≤ 9223372036854775807) :
    Calls Tryz.prog 6 #[.slice oa n rc] w fun e w' => e = .returned (.bool (shortB l)) ∧ w' = w := by
  cases n with
  | zero =>
    obtain rfl := List.length_eq_zero_iff.1 hl
    exact short_zero oa rc w
  | succ n =>
    obtain ⟨rb, ro, rfl, hA, hlt⟩ := hR (by omega)
    exact short_s rb ro rc (n + 1) l hl hn w hA hsz
theorem byEnds_any (ob : Option Addr) (hc H : Nat) (gs : List Dn) (hl : gs.length = H) (hH : H ≤ 60) (w : World) (hA : HistSl w ob H gs) :
    Calls Tryz.prog 11 #[.slice ob H hc] w fun e w' => ∃ v, e = .returned v ∧ Below w.heap.size w w' ∧ ∃ r, IsEnds gs r ∧ RowOf w' v r := by
  cases H with
  | zero =>
    obtain rfl := List.length_eq_zero_iff.1 hl
    refine (byEnds_zero ob hc w).mono ?_
    rintro e w' ⟨rfl, rfl⟩
    exact ⟨_, rfl, Below.refl _ _, [], ⟨List.Perm.refl _, List.Pairwise.nil⟩, Or.inl ⟨rfl, rfl⟩⟩
  | succ H =>
    obtain ⟨b, o, rfl, hA, hlt⟩ := hA (by omega)
    exact byEnds_s b o hc (H + 1) gs hl hH w hA hlt
theorem rbyEnds_any (ob : Option Addr) (hc H : Nat) (gs : List Dn) (hl : gs.length = H) (hH : H ≤ 60) (w : World) (hA : HistSl w ob H gs) :
    Calls Tryz.prog 12 #[.slice ob H hc] w fun e w' => ∃ v, e = .returned v ∧ Below w.heap.size w w' ∧ ∃ r, IsEnds gs r ∧ RowOf w' v r := by
  cases H with
  | zero =>
    obtain rfl := List.length_eq_zero_iff.1 hl
    refine (rbyEnds_zero ob hc w).mono ?_
    rintro e w' ⟨rfl, rfl⟩
    exact ⟨_, rfl, Below.refl _ _, [], ⟨List.Perm.refl _, List.Pairwise.nil⟩, Or.inl ⟨rfl, rfl⟩⟩
  | succ H =>
    obtain ⟨b, o, rfl, hA, hlt⟩ := hA (by omega)
    exact rbyEnds_s b o hc (H + 1) gs hl hH w hA hlt
end Go.Proofs.YtcibmhncdgoemaaGreatDoor
namespace Go.Proofs.YtcibmhncdgoemaaGreatDoor
open Go Go.Shelf Go.RowKit Go.Lib Go.Sort Go.Maps

/-- a callee's contract, met in a world of the class -/
theorem regrown_callO {f : FuncId} {args : Array Value} {v : Value} {W : World} (h : ∀ W', Below W.heap.size W W' → Calls Tryz.prog f args W' fun e w' => e = .returned v ∧ Below W'.heap.size W' w') (d : Nat) (os : Array Obj) :
    Calls Tryz.prog f args (grow (redrawn W d) os) fun e w'' => e = .returned v ∧ ∃ p : Regrown, w'' = grow (redrawn W p.d) p.os :=
  Calls.regrown_of (h _ (below_regrown W d os))
theorem RowOf.below {w w' : World} {v : Value} {r : List Nat} (h : RowOf w v r) (hb : Below w.heap.size w w') : RowOf w' v r := by
  rcases h with h | ⟨blk, cap, h1, h2, h3⟩
  · exact Or.inl h
  · refine Or.inr ⟨blk, cap, h1, Nat.lt_of_lt_of_le h2 hb.size, fun j x hj => ?_⟩
    rw [hb.cell (p := ⟨blk, j, none⟩) h2]
    exact h3 j x hj

set_option maxHeartbeats 8000000 in
set_option maxRecDepth 1000000 in
theorem orders_s (oa ob : Option Addr) (rc n hc H : Nat) (l : List Rq) (gs : List Dn) (hln : l.length = n) (hhn : gs.length = H) (w : World)
    (hk : ∀ W, Below w.heap.size w W → Calls Tryz.prog 7 #[] W fun r w' => r = .returned (.bool true) ∧ Below W.heap.size W w')
    (hR : ReqSl w oa n l) (hA : HistSl w ob H gs) (hlz : ∀ x ∈ l, x.s.size ≤ 9223372036854775807) (hgz : ∀ x ∈ gs, x.s.size ≤ 9223372036854775807) (hwf : ∀ x ∈ gs, (Lit.int .i64 x.q).wf = true) :
    Calls Tryz.prog 3 #[.slice oa n rc, .slice ob H hc] w fun e w' => e = .returned (.bool true) ∧ Below w.heap.size w w' := by
  have HR : Aside (ReqSl w oa n l) := hR
  have HA : Aside (HistSl w ob H gs) := hA
  have HK : Aside _ := hk
  have HLZ : Aside _ := hlz
  have HGZ : Aside _ := hgz
  have HWF : Aside _ := hwf
  have HL := Lib.hid hln
  have HH := Lib.hid hhn
  clear hk hR hA hlz hgz hwf hln hhn
  by_cases h1 : 60 < n
  · have g1 : (60 : Int) < (n : Int) := by omega
    go_enter Tryz.func3, Tryz.ntmps3
    go_wp2_with (go_at_call 7; refine (HK.out _ (Below.refl _ _)).mono ?_; rintro r w1 ⟨rfl, hb⟩)
    go_ret
    exact ⟨rfl, hb⟩
  have g1 : ¬ (60 : Int) < (n : Int) := by omega
  by_cases h2 : 60 < H
  · have g2 : (60 : Int) < (H : Int) := by omega
    go_enter Tryz.func3, Tryz.ntmps3
    go_wp2_with (go_at_call 7; refine (HK.out _ (Below.refl _ _)).mono ?_; rintro r w1 ⟨rfl, hb⟩)
    go_ret
    exact ⟨rfl, hb⟩
  have g2 : ¬ (60 : Int) < (H : Int) := by omega
  have hS := short_any oa rc n l HL.out (by omega) w HR.out HLZ.out
  have HS := Lib.hid hS
  clear hS
  cases hsh : shortB l
  · rw [hsh] at HS
    go_enter Tryz.func3, Tryz.ntmps3
    go_wp2_with (first | (go_at_call 6; refine HS.out.mono ?_; rintro r w1 ⟨rfl, hw1⟩; have hw2 := hw1.symm; clear hw1; subst hw2) | (go_at_call 7; refine (HK.out _ (Below.refl _ _)).mono ?_; rintro r w1 ⟨rfl, hb⟩))
    go_ret
    exact ⟨rfl, hb⟩
  rw [hsh] at HS
  go_enter Tryz.func3, Tryz.ntmps3
  go_wp2_with (go_at_call 6; refine HS.out.mono ?_; rintro r w1 ⟨rfl, hw1⟩; have hw2 := hw1.symm; clear hw1; subst hw2)
  go_loop [5] (fun i => ∃ k : Nat, k ≤ H ∧ i = .int .i64 k ∧ Hid (∀ j x, j < k → gs[j]? = some x → x.s.size ≤ 70000)) (fun i => H - (RowKit.intOf i).toNat)
  case atStart => exact ⟨0, Nat.zero_le _, rfl, Lib.hid fun j x h => by omega⟩
  case round =>
    obtain ⟨k, hk, rfl, HKK⟩ := hrel
    by_cases hlt : k < H
    · obtain ⟨hb, ho, rfl, hA, hlt0⟩ := HA.out (by omega)
      obtain ⟨x, hx⟩ : ∃ x, gs[k]? = some x := ⟨gs[k]'(by rw [HH.out]; exact hlt), List.getElem?_eq_getElem _⟩
      have c7 := (hA k x hx).c7
      have HX := Lib.hid hx
      have hz := HGZ.out x (List.mem_of_getElem? hx)
      clear hx hA hlt0
      have b1 : (k : Int) < (H : Int) := by omega
      have b0 : (0 : Int) ≤ (k : Int) := by omega
      by_cases hs : 70000 < x.s.size
      · have hs' : (70000 : Int) < (x.s.size : Int) := by omega
        go_wp2_with (go_at_call 7; refine (HK.out _ (Below.refl _ _)).mono ?_; rintro r w1 ⟨rfl, hb⟩)
        go_ret
        exact ⟨rfl, hb⟩
      · have hs' : ¬ (70000 : Int) < (x.s.size : Int) := by omega
        go_wp2_with fail
        go_round
        case rel => exact ⟨k + 1, by omega, by go_num, Lib.hid fun j y hj hy => by
          by_cases e : j = k
          · subst e
            rw [HX.out] at hy
            cases hy
            omega
          · exact HKK.out j y (by omega) hy⟩
        case measure => simp [RowKit.intOf]; omega
    · obtain rfl : k = H := by omega
      have hsz : ∀ x ∈ gs, x.s.size ≤ 70000 := fun x hx => by
        obtain ⟨j, hj, rfl⟩ := List.mem_iff_getElem.1 hx
        exact HKK.out j _ (by rw [← HH.out]; exact hj) (List.getElem?_eq_getElem hj)
      have hm := may_s oa ob rc n hc k l gs HL.out HH.out (by omega) (by omega) w HR.out HA.out hsz HWF.out
      have HM := Lib.hid hm
      have HSZ : Aside _ := hsz
      clear hm hsz HKK
      generalize hMM : mayB l gs = M at HM
      have HMM := Lib.hid hMM
      clear hMM
      go_wp2_with (go_at_call 8; refine HM.out.mono ?_; rintro r w1 ⟨rfl, hb1⟩; refine Hid.out ?_)
      refine Lib.hid ?_
      have HR1 : Aside (ReqSl w1 oa n l) := HR.out.below hb1
      have HA1 : Aside (HistSl w1 ob k gs) := HA.out.below hb1
      have HB1 := Lib.hid hb1
      clear hb1
      have hm := rmay_s oa ob rc n hc k l gs HL.out HH.out (by omega) (by omega) w1 HR1.out HA1.out HSZ.out
      rw [HMM.out] at hm
      have HM2 := Lib.hid hm
      clear hm HM
      go_wp2_with (go_at_call 9; refine HM2.out.mono ?_; rintro r w2 ⟨rfl, hb2⟩; refine Hid.out ?_)
      refine Lib.hid ?_
      have HA2 : Aside (HistSl w2 ob k gs) := HA1.out.below hb2
      have HB2 := Lib.hid (HB1.out.trans (hb2.mono HB1.out.size))
      clear hb2 HM2 HR1 HA1 HB1
      have hE := byEnds_any ob hc k gs HH.out (by omega) w2 HA2.out
      have HE := Lib.hid hE
      clear hE
      have hMM : (M != M) = false := by simp
      cases M <;> go_wp2_with (go_at_call 11; refine HE.out.mono ?_; rintro r w3 ⟨v1, rfl, hb3, r1, e1, row1⟩; refine Hid.out ?_)
      all_goals
        refine Lib.hid ?_
        have HA3 : Aside (HistSl w3 ob k gs) := HA2.out.below hb3
        have HB3 := Lib.hid (HB2.out.trans (hb3.mono HB2.out.size))
        have HE1 := Lib.hid e1
        have HROW := Lib.hid row1
        clear hb3 e1 row1 HE
        have hE := rbyEnds_any ob hc k gs HH.out (by omega) w3 HA3.out
        have HE := Lib.hid hE
        clear hE
        go_wp2_with (go_at_call 12; refine HE.out.mono ?_; rintro r w4 ⟨v2, rfl, hb4, r2, e2, row2⟩; refine Hid.out ?_)
        refine Lib.hid ?_
        have HA4 : Aside (HistSl w4 ob k gs) := HA3.out.below hb4
        have HB4 := Lib.hid (HB3.out.trans (hb4.mono HB3.out.size))
        have er : r2 = r1 := ends_unique e2 HE1.out
        subst er
        have hlen : r2.length < 1000 := by
          have h := e2.perm.length_eq
          have h' := ended_len gs gs.length
          rw [HH.out] at h'
          rw [HH.out] at h
          omega
        have hS := sameInts_s v1 v2 r2 hlen w4 (HROW.out.below hb4) row2
        have HS2 := Lib.hid hS
        clear hS hb4 e2 row2 HE HE1 HROW
        go_wp2_with (go_at_call 10; refine HS2.out.mono ?_; rintro r w5 ⟨rfl, q5, rfl⟩; refine Hid.out ?_)
        refine Lib.hid ?_
        go_wp2_with fail
        have HB5 : Aside (Below w.heap.size w (w4.drewN q5)) := below_drewN HB4.out q5
        generalize w4.drewN q5 = w5 at HB5
        clear HB4 HA4 HB3 HA3 HB2 HA2 HS2 HMM
        go_loopw [6] (fun i wr => ∃ i' : Nat, i' ≤ k ∧ i = .int .i64 i' ∧ Aside (Below w.heap.size w wr)) (fun i _ => k - (RowKit.intOf i).toNat)
        case atStart => exact ⟨0, Nat.zero_le _, rfl, HB5.out⟩
        case round =>
          obtain ⟨i, hi, rfl, hbel⟩ := hrel
          by_cases hik : i < k
          · have b1 : (i : Int) < (k : Int) := by omega
            have b0 : (0 : Int) ≤ (i : Int) := by omega
            go_wp2_with fail
            go_loopw [7] (fun j wr => ∃ j' : Nat, j' ≤ k ∧ j = .int .i64 j' ∧ Aside (Below w.heap.size w wr)) (fun j _ => k - (RowKit.intOf j).toNat)
            case atStart => exact ⟨0, Nat.zero_le _, rfl, hbel.out⟩
            case round =>
              clear hbel
              obtain ⟨j, hj, rfl, hbel⟩ := hrel
              by_cases hjk : j < k
              · have a1 : (j : Int) < (k : Int) := by omega
                have a0 : (0 : Int) ≤ (j : Int) := by omega
                obtain ⟨hb, ho, rfl, hA, hlt0⟩ := HA.out (by omega)
                obtain ⟨⟨xq, xt, xb, xe, xm, xc, xv, xs⟩, hx⟩ : ∃ x, gs[i]? = some x := ⟨gs[i]'(by rw [HH.out]; exact hik), List.getElem?_eq_getElem _⟩
                obtain ⟨⟨yq, yt, yb, ye, ym, yc, yv, ys⟩, hy⟩ : ∃ x, gs[j]? = some x := ⟨gs[j]'(by rw [HH.out]; exact hjk), List.getElem?_eq_getElem _⟩
                obtain ⟨c0, c1, c2, c3, c4, c5, c6, c7⟩ := (hA i _ hx).below hlt0 hbel.out
                obtain ⟨d0, d1, d2, d3, d4, d5, d6, d7⟩ := (hA j _ hy).below hlt0 hbel.out
                dsimp only at c0 c1 c2 c3 c4 c5 c6 c7 d0 d1 d2 d3 d4 d5 d6 d7
                clear hx hy hA hlt0
                have C1 := fun d os => regrown_callO (W := wr) (fun W' _ => ahead_s ⟨xq, xt, xb, xe, xm, xc, xv, xs⟩ ⟨yq, yt, yb, ye, ym, yc, yv, ys⟩ W') d os
                have C2 := fun d os => regrown_callO (W := wr) (fun W' _ => rahead_s ⟨xq, xt, xb, xe, xm, xc, xv, xs⟩ ⟨yq, yt, yb, ye, ym, yc, yv, ys⟩ W') d os
                simp only [Dn.val] at C1 C2
                generalize aheadB ⟨xq, xt, xb, xe, xm, xc, xv, xs⟩ ⟨yq, yt, yb, ye, ym, yc, yv, ys⟩ = A at C1 C2
                have hAA : (A != A) = false := by simp
                replace c0 := cell_regrown c0
                replace c1 := cell_regrown c1
                replace c2 := cell_regrown c2
                replace c3 := cell_regrown c3
                replace c4 := cell_regrown c4
                replace c5 := cell_regrown c5
                replace c6 := cell_regrown c6
                replace c7 := cell_regrown c7
                replace d0 := cell_regrown d0
                replace d1 := cell_regrown d1
                replace d2 := cell_regrown d2
                replace d3 := cell_regrown d3
                replace d4 := cell_regrown d4
                replace d5 := cell_regrown d5
                replace d6 := cell_regrown d6
                replace d7 := cell_regrown d7
                go_wp2_with fail
                refine wp_region_quiet_below (by kernel_rfl) (by kernel_rfl) ?_
                repeat (quiet_step (first | with_reducible exact C1 _ _ | with_reducible exact C2 _ _))
                refine wpQuiet_nil ?_
                intro _ hw'
                obtain ⟨pq, hw''⟩ := hw'
                subst hw''
                have HBN : Aside (Below w.heap.size w (grow (redrawn wr pq.d) pq.os)) := hbel.out.trans ((below_regrown wr pq.d pq.os).mono hbel.out.size)
                generalize grow (redrawn wr pq.d) pq.os = W2 at HBN ⊢
                clear c0 c1 c2 c3 c4 c5 c6 c7 d0 d1 d2 d3 d4 d5 d6 d7 C1 C2
                go_wp2_with fail
                go_roundw
                case rel => exact ⟨j + 1, by omega, by go_num, HBN.out⟩
                case measure => simp [RowKit.intOf]; omega
              · obtain rfl : j = k := by omega
                go_wp2_with fail
                go_roundw
                case rel => exact ⟨i + 1, by omega, by go_num, hbel.out⟩
                case measure => simp [RowKit.intOf]; omega
          · obtain rfl : i = k := by omega
            go_wp2_with (go_at_call 7; refine (HK.out _ hbel.out).mono ?_; rintro r w6 ⟨rfl, hb6⟩)
            go_ret
            exact ⟨rfl, hbel.out.trans (hb6.mono hbel.out.size)⟩
end Go.Proofs.YtcibmhncdgoemaaGreatDoor
