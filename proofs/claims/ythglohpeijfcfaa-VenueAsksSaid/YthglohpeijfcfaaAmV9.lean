import Derived.Test.YthglohpeijfcfaaAmV8
set_option linter.unusedVariables false
set_option linter.unusedSimpArgs false
set_option linter.unusedSectionVars false
namespace Go.Proofs.Yth
open Go Go.Am
set_option maxRecDepth 20000
set_option maxHeartbeats 2000000
def sA : SeatR := ⟨1, 5, 0, 0⟩
def sB : SeatR := ⟨0, 9, 0, 0⟩
def tv : VenR := ⟨[sA, sB], 1, 0, [0], []⟩
def tu : VenR := ⟨[sB, sA], 1, 0, [1], []⟩
def tw : VenR := ⟨[sB, sA], 0, 0, [1], []⟩
def tz : VenR := ⟨[], 0, 0, [], []⟩
theorem tz_wrong : wrongV tz = [115, 101, 97, 116, 115] := by decide
theorem tv_wrong : wrongV tv = [115, 101, 97, 116, 115] := by decide
theorem tw_wrong : wrongV tw = [103, 97, 112] := by decide
theorem tu_may : mayV tu = true := by decide
theorem tu_same : sameV tu tu = true := by decide
theorem tw_same : sameV tu tw = false := by decide
theorem perm_two {α : Type} {ys : List α} {a b : α} (h : ys.Perm [a, b]) : ys = [a, b] ∨ ys = [b, a] := by
  have hl := h.length_eq
  match ys, hl with
  | [x, y], _ =>
    have hx : x = a ∨ x = b := by simpa using h.subset (by simp : x ∈ [x, y])
    rcases hx with rfl | rfl
    · have := (List.perm_cons x).1 h
      have := List.perm_singleton.1 this
      left; rw [this]
    · have h2 : [x, y].Perm [x, a] := h.trans (List.Perm.swap _ _ _)
      have := (List.perm_cons x).1 h2
      have := List.perm_singleton.1 this
      right; rw [this]
theorem tv_ys {ys : List SeatR} (h : ys.Perm tv.seats) (hs : SortedS ys) : ys = [sB, sA] := by
  rcases perm_two h with rfl | rfl
  · have := hs 0 1 sA sB (by omega) rfl rfl
    exact absurd this (by decide)
  · rfl
theorem sortI_one (n : Int) : sortI [n] = [n] := by simp [sortI]
theorem noAdj_one (n : Int) : NoAdj [n] := fun i a b _ h2 => by simp at h2
theorem tv_out : outV tv [sB, sA] = tu := by
  have : (killedL tv).map (fun s => findA (atS s) [sB, sA]) = [1] := by decide
  unfold outV
  rw [this, sortI_one]; rfl
theorem tz_ys {ys : List SeatR} (h : ys.Perm tz.seats) : ys = [] := by simpa [tz] using h
theorem tz_may : mayV (outV tz []) = false := by
  have : (killedL tz).map (fun s => findA (atS s) []) = [] := by decide
  unfold outV
  rw [this]
  have : sortI [] = [] := by simp [sortI]
  rw [this]; decide
theorem told_ok (h : Heap) : ACalls PP 10 [] h (fun v h' => Ext h h' ∧ v = .bool true) := by
  refine acalls_of_vc mix fn10 bodyEq10 rfl (by show 0 ≤ 97; decide) ok10 ?_
  simp only [body10, Try.f10]
  have hr8 : List.range 8 = [0, 1, 2, 3, 4, 5, 6, 7] := rfl
  have hr1 : List.range 1 = [0] := rfl
  simp -implicitDefEqProofs [opBuildSlice, hr8, hr1]
  obtain ⟨H1, hH1⟩ : ∃ H1, H1 = ((h.new (Blk.row true 34 [.int .i64 1, .int .i64 5, .int .i64 0, .int .i64 0, .int .i64 0, .int .i64 9, .int .i64 0, .int .i64 0])).new (Blk.row true 3 [.int .i64 0])) := ⟨_, rfl⟩
  have hE1 : Ext h H1 := by rw [hH1]; exact (Ext.new _ _).newOf _
  have hvc : VenC H1 tv [.slice (some ⟨h.n, 0, none⟩) 2 2, .int .i64 1, .int .i64 0, .slice (some ⟨h.n + 1, 0, none⟩) 1 1, .slice none 0 0] := by
    refine ⟨_, _, _, rfl, ?_, ?_, SlA.nil⟩
    · exact ⟨_, _, rfl, fun q => by simp at q, .inr ⟨h.n, 0, true, _, [], rfl, by rw [hH1]; simp; rfl, by simp [tv, seatC, sA, sB], by simp, by rw [hH1]; simp; omega⟩⟩
    · exact ⟨_, _, rfl, fun q => by simp at q, .inr ⟨h.n + 1, 0, true, _, [], rfl, by rw [hH1]; simp; rfl, by simp [tv, intC], by simp, by rw [hH1]; simp⟩⟩
  rw [← hH1]
  have hsm : venSmall tv := ⟨by decide, by decide, by decide⟩
  have hsu : venSmall tu := ⟨by decide, by decide, by decide⟩
  have hsw : venSmall tw := ⟨by decide, by decide, by decide⟩
  have hsz : venSmall tz := ⟨by decide, by decide, by decide⟩
  refine (norm_ok tv _ hsm (by decide) H1 hvc (fun ys hp hs => by
    rw [tv_ys hp hs]
    have : (killedL tv).map (fun s => findA (atS s) [sB, sA]) = [1] := by decide
    rw [this, sortI_one]; exact noAdj_one 1)).mono ?_
  rintro r H2 ⟨E2, hr | ⟨_, ys, hp, hs, hr⟩⟩
  · exact absurd hr.1 (by decide)
  obtain rfl := tv_ys hp hs
  rw [tv_out] at hr
  rcases hr with ⟨_, co, hco, rfl⟩ | ⟨hr, _⟩
  rotate_left
  · rw [tu_may] at hr; cases hr
  obtain ⟨su, ku, pu, rfl, hu1, hu2, hu3⟩ := hco
  have hcu := hu1
  obtain ⟨adU, cU, rfl⟩ := hu1.shape
  obtain ⟨adV, cV, rfl⟩ := hu2.shape
  obtain ⟨adW, cW, rfl⟩ := hu3.shape
  have hvu : VenC H2 tu [.slice adU 2 cU, .int .i64 1, .int .i64 0, .slice adV 1 cV, .slice adW 0 cW] := ⟨_, _, _, rfl, hu1, hu2, hu3⟩
  have hvw : VenC H2 tw [.slice adU 2 cU, .int .i64 0, .int .i64 0, .slice adV 1 cV, .slice adW 0 cW] := ⟨_, _, _, rfl, hu1, hu2, hu3⟩
  simp -implicitDefEqProofs [callQ, tu]
  intro _
  have hvz : VenC H2 tz [.slice none 0 0, .int .i64 0, .int .i64 0, .slice none 0 0, .slice none 0 0] := ⟨_, _, _, rfl, SlA.nil, SlA.nil, SlA.nil⟩
  refine (norm_ok tz _ hsz (by decide) H2 hvz (fun ys hp hs => by
    rw [tz_ys hp]
    have : (killedL tz).map (fun s => findA (atS s) []) = [] := by decide
    rw [this]
    have : sortI [] = [] := by simp [sortI]
    rw [this]
    exact fun i a b h1 _ => by simp at h1)).mono ?_
  rintro r H3 ⟨E3, hr | ⟨_, ys, hp, hs, hr⟩⟩
  · exact absurd hr.1 (by decide)
  obtain rfl := tz_ys hp
  rcases hr with ⟨hr, _⟩ | ⟨_, rfl⟩
  · rw [tz_may] at hr; cases hr
  simp -implicitDefEqProofs [callQ, zVen]
  intro _
  obtain ⟨_, bU, oU, wU, cellsU, rU, eU, hbU, hdU, hlU, hnU⟩ := (hu1.ext E3).at (i := 0) (t := sB) 4 seatC_len rfl
  obtain ⟨_, bU2, oU2, wU2, cellsU2, rU2, eU2, hbU2, hdU2, hlU2, _⟩ := (hu1.ext E3).at (i := 1) (t := sA) 4 seatC_len rfl
  obtain ⟨_, bV, oV, wV, cellsV, rV, eV, hbV, hdV, hlV, hnV⟩ := (hu2.ext E3).at (i := 0) (t := (1 : Int)) 1 intC_len rfl
  subst eU
  simp only [Option.some.injEq, Addr.mk.injEq, and_true] at eU2
  obtain ⟨rfl, rfl⟩ := eU2
  rw [hbU] at hbU2
  simp only [Blk.row.injEq, true_and] at hbU2
  obtain ⟨rfl, rfl⟩ := hbU2
  subst eV
  simp only [Nat.zero_mul, Nat.one_mul, Nat.add_zero, Nat.mul_one] at hdU hdU2 hdV hlU hlU2 hlV
  refine (wrong_ok tz _ hsz H3 (hvz.ext E3)).mono ?_
  rintro r H4 ⟨rfl, rfl⟩
  rw [tz_wrong]
  simp -implicitDefEqProofs [callP]
  intro _
  refine (wrong_ok tv _ hsm H4 ((hvc.ext E2).ext E3)).mono ?_
  rintro r H5 ⟨rfl, rfl⟩
  rw [tv_wrong]
  have q1 : oU + 1 ≤ cellsU.length := by omega
  simp -implicitDefEqProofs [callP, hbU, hdU, hdU2, hlU, hlU2, hbV, hdV, hlV, q1, seatC, sA, sB, intC]
  intro _
  refine (may_ok tu _ hsu H5 (hvu.ext E3)).mono ?_
  rintro r H6 ⟨rfl, rfl⟩
  rw [tu_may]
  simp -implicitDefEqProofs [callP]
  intro _
  refine (wrong_ok tw _ hsw H6 (hvw.ext E3)).mono ?_
  rintro r H7 ⟨rfl, rfl⟩
  rw [tw_wrong]
  simp -implicitDefEqProofs [callP]
  intro _
  refine (same_ok tu tu _ _ hsu H7 (hvu.ext E3) (hvu.ext E3)).mono ?_
  rintro r H8 ⟨rfl, rfl⟩
  rw [tu_same]
  simp -implicitDefEqProofs [callP]
  intro _
  refine (same_ok tu tw _ _ hsu H8 (hvu.ext E3) (hvw.ext E3)).mono ?_
  rintro r H9 ⟨rfl, rfl⟩
  rw [tw_same]
  simp -implicitDefEqProofs [callP, hbU, hdU, hdU2, hlU, hlU2, seatC, sA, sB]
  intro _
  refine (less_ok sB sA H9).mono ?_
  rintro r H10 ⟨rfl, rfl⟩
  have hls : lessS sB sA = true := by decide
  rw [hls]
  simp -implicitDefEqProofs [callP]
  intro _
  exact (hE1.trans E2).trans E3
end Go.Proofs.Yth
