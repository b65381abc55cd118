/- A struct stored cell by cell into a block known whole; blocks laid ahead of a call. No program in sight. -/
import Derived.Test.YthkphapmnlndbabGen
namespace Go.Proofs.Ythkphapmnlndbab.Flow
open Go.RowKit
theorem Blk.set_is {w : World} {g : Nat} {t : TypeId} {cs cs' : Array Value} (h : Blk w g t cs) (i : Nat) (u : Value) (e : cs.setIfInBounds i u = cs') : Blk (w.setCell ⟨g, i, none⟩ u) g t cs' := e ▸ h.set i u
theorem store2 {w : World} {g : Nat} {t : TypeId} {a0 a1 b0 b1 : Value} (h : Blk w g t #[a0, a1]) :
    Blk ((w.setCell ⟨g, 0, none⟩ b0).setCell ⟨g, 1, none⟩ b1) g t #[b0, b1] ∧ Chg (· = g) w ((w.setCell ⟨g, 0, none⟩ b0).setCell ⟨g, 1, none⟩ b1) := by
  refine ⟨?_, ?_⟩
  · have h0 := Blk.set_is h 0 b0 (cs' := #[b0, a1]) rfl
    have h1 := Blk.set_is h0 1 b1 (cs' := #[b0, b1]) rfl
    exact h1
  · refine Chg.setCell (S := (· = g)) (p := ⟨g, 1, none⟩) ?_ (fun _ => rfl) _
    refine Chg.setCell (S := (· = g)) (p := ⟨g, 0, none⟩) ?_ (fun _ => rfl) _
    exact Chg.refl _ _
theorem store3 {w : World} {g : Nat} {t : TypeId} {a0 a1 a2 b0 b1 b2 : Value} (h : Blk w g t #[a0, a1, a2]) :
    Blk (((w.setCell ⟨g, 0, none⟩ b0).setCell ⟨g, 1, none⟩ b1).setCell ⟨g, 2, none⟩ b2) g t #[b0, b1, b2] ∧ Chg (· = g) w (((w.setCell ⟨g, 0, none⟩ b0).setCell ⟨g, 1, none⟩ b1).setCell ⟨g, 2, none⟩ b2) := by
  refine ⟨?_, ?_⟩
  · have h0 := Blk.set_is h 0 b0 (cs' := #[b0, a1, a2]) rfl
    have h1 := Blk.set_is h0 1 b1 (cs' := #[b0, b1, a2]) rfl
    have h2 := Blk.set_is h1 2 b2 (cs' := #[b0, b1, b2]) rfl
    exact h2
  · refine Chg.setCell (S := (· = g)) (p := ⟨g, 2, none⟩) ?_ (fun _ => rfl) _
    refine Chg.setCell (S := (· = g)) (p := ⟨g, 1, none⟩) ?_ (fun _ => rfl) _
    refine Chg.setCell (S := (· = g)) (p := ⟨g, 0, none⟩) ?_ (fun _ => rfl) _
    exact Chg.refl _ _
theorem store4 {w : World} {g : Nat} {t : TypeId} {a0 a1 a2 a3 b0 b1 b2 b3 : Value} (h : Blk w g t #[a0, a1, a2, a3]) :
    Blk ((((w.setCell ⟨g, 0, none⟩ b0).setCell ⟨g, 1, none⟩ b1).setCell ⟨g, 2, none⟩ b2).setCell ⟨g, 3, none⟩ b3) g t #[b0, b1, b2, b3] ∧ Chg (· = g) w ((((w.setCell ⟨g, 0, none⟩ b0).setCell ⟨g, 1, none⟩ b1).setCell ⟨g, 2, none⟩ b2).setCell ⟨g, 3, none⟩ b3) := by
  refine ⟨?_, ?_⟩
  · have h0 := Blk.set_is h 0 b0 (cs' := #[b0, a1, a2, a3]) rfl
    have h1 := Blk.set_is h0 1 b1 (cs' := #[b0, b1, a2, a3]) rfl
    have h2 := Blk.set_is h1 2 b2 (cs' := #[b0, b1, b2, a3]) rfl
    have h3 := Blk.set_is h2 3 b3 (cs' := #[b0, b1, b2, b3]) rfl
    exact h3
  · refine Chg.setCell (S := (· = g)) (p := ⟨g, 3, none⟩) ?_ (fun _ => rfl) _
    refine Chg.setCell (S := (· = g)) (p := ⟨g, 2, none⟩) ?_ (fun _ => rfl) _
    refine Chg.setCell (S := (· = g)) (p := ⟨g, 1, none⟩) ?_ (fun _ => rfl) _
    refine Chg.setCell (S := (· = g)) (p := ⟨g, 0, none⟩) ?_ (fun _ => rfl) _
    exact Chg.refl _ _
theorem store5 {w : World} {g : Nat} {t : TypeId} {a0 a1 a2 a3 a4 b0 b1 b2 b3 b4 : Value} (h : Blk w g t #[a0, a1, a2, a3, a4]) :
    Blk (((((w.setCell ⟨g, 0, none⟩ b0).setCell ⟨g, 1, none⟩ b1).setCell ⟨g, 2, none⟩ b2).setCell ⟨g, 3, none⟩ b3).setCell ⟨g, 4, none⟩ b4) g t #[b0, b1, b2, b3, b4] ∧ Chg (· = g) w (((((w.setCell ⟨g, 0, none⟩ b0).setCell ⟨g, 1, none⟩ b1).setCell ⟨g, 2, none⟩ b2).setCell ⟨g, 3, none⟩ b3).setCell ⟨g, 4, none⟩ b4) := by
  refine ⟨?_, ?_⟩
  · have h0 := Blk.set_is h 0 b0 (cs' := #[b0, a1, a2, a3, a4]) rfl
    have h1 := Blk.set_is h0 1 b1 (cs' := #[b0, b1, a2, a3, a4]) rfl
    have h2 := Blk.set_is h1 2 b2 (cs' := #[b0, b1, b2, a3, a4]) rfl
    have h3 := Blk.set_is h2 3 b3 (cs' := #[b0, b1, b2, b3, a4]) rfl
    have h4 := Blk.set_is h3 4 b4 (cs' := #[b0, b1, b2, b3, b4]) rfl
    exact h4
  · refine Chg.setCell (S := (· = g)) (p := ⟨g, 4, none⟩) ?_ (fun _ => rfl) _
    refine Chg.setCell (S := (· = g)) (p := ⟨g, 3, none⟩) ?_ (fun _ => rfl) _
    refine Chg.setCell (S := (· = g)) (p := ⟨g, 2, none⟩) ?_ (fun _ => rfl) _
    refine Chg.setCell (S := (· = g)) (p := ⟨g, 1, none⟩) ?_ (fun _ => rfl) _
    refine Chg.setCell (S := (· = g)) (p := ⟨g, 0, none⟩) ?_ (fun _ => rfl) _
    exact Chg.refl _ _
theorem store6 {w : World} {g : Nat} {t : TypeId} {a0 a1 a2 a3 a4 a5 b0 b1 b2 b3 b4 b5 : Value} (h : Blk w g t #[a0, a1, a2, a3, a4, a5]) :
    Blk ((((((w.setCell ⟨g, 0, none⟩ b0).setCell ⟨g, 1, none⟩ b1).setCell ⟨g, 2, none⟩ b2).setCell ⟨g, 3, none⟩ b3).setCell ⟨g, 4, none⟩ b4).setCell ⟨g, 5, none⟩ b5) g t #[b0, b1, b2, b3, b4, b5] ∧ Chg (· = g) w ((((((w.setCell ⟨g, 0, none⟩ b0).setCell ⟨g, 1, none⟩ b1).setCell ⟨g, 2, none⟩ b2).setCell ⟨g, 3, none⟩ b3).setCell ⟨g, 4, none⟩ b4).setCell ⟨g, 5, none⟩ b5) := by
  refine ⟨?_, ?_⟩
  · have h0 := Blk.set_is h 0 b0 (cs' := #[b0, a1, a2, a3, a4, a5]) rfl
    have h1 := Blk.set_is h0 1 b1 (cs' := #[b0, b1, a2, a3, a4, a5]) rfl
    have h2 := Blk.set_is h1 2 b2 (cs' := #[b0, b1, b2, a3, a4, a5]) rfl
    have h3 := Blk.set_is h2 3 b3 (cs' := #[b0, b1, b2, b3, a4, a5]) rfl
    have h4 := Blk.set_is h3 4 b4 (cs' := #[b0, b1, b2, b3, b4, a5]) rfl
    have h5 := Blk.set_is h4 5 b5 (cs' := #[b0, b1, b2, b3, b4, b5]) rfl
    exact h5
  · refine Chg.setCell (S := (· = g)) (p := ⟨g, 5, none⟩) ?_ (fun _ => rfl) _
    refine Chg.setCell (S := (· = g)) (p := ⟨g, 4, none⟩) ?_ (fun _ => rfl) _
    refine Chg.setCell (S := (· = g)) (p := ⟨g, 3, none⟩) ?_ (fun _ => rfl) _
    refine Chg.setCell (S := (· = g)) (p := ⟨g, 2, none⟩) ?_ (fun _ => rfl) _
    refine Chg.setCell (S := (· = g)) (p := ⟨g, 1, none⟩) ?_ (fun _ => rfl) _
    refine Chg.setCell (S := (· = g)) (p := ⟨g, 0, none⟩) ?_ (fun _ => rfl) _
    exact Chg.refl _ _
theorem store7 {w : World} {g : Nat} {t : TypeId} {a0 a1 a2 a3 a4 a5 a6 b0 b1 b2 b3 b4 b5 b6 : Value} (h : Blk w g t #[a0, a1, a2, a3, a4, a5, a6]) :
    Blk (((((((w.setCell ⟨g, 0, none⟩ b0).setCell ⟨g, 1, none⟩ b1).setCell ⟨g, 2, none⟩ b2).setCell ⟨g, 3, none⟩ b3).setCell ⟨g, 4, none⟩ b4).setCell ⟨g, 5, none⟩ b5).setCell ⟨g, 6, none⟩ b6) g t #[b0, b1, b2, b3, b4, b5, b6] ∧ Chg (· = g) w (((((((w.setCell ⟨g, 0, none⟩ b0).setCell ⟨g, 1, none⟩ b1).setCell ⟨g, 2, none⟩ b2).setCell ⟨g, 3, none⟩ b3).setCell ⟨g, 4, none⟩ b4).setCell ⟨g, 5, none⟩ b5).setCell ⟨g, 6, none⟩ b6) := by
  refine ⟨?_, ?_⟩
  · have h0 := Blk.set_is h 0 b0 (cs' := #[b0, a1, a2, a3, a4, a5, a6]) rfl
    have h1 := Blk.set_is h0 1 b1 (cs' := #[b0, b1, a2, a3, a4, a5, a6]) rfl
    have h2 := Blk.set_is h1 2 b2 (cs' := #[b0, b1, b2, a3, a4, a5, a6]) rfl
    have h3 := Blk.set_is h2 3 b3 (cs' := #[b0, b1, b2, b3, a4, a5, a6]) rfl
    have h4 := Blk.set_is h3 4 b4 (cs' := #[b0, b1, b2, b3, b4, a5, a6]) rfl
    have h5 := Blk.set_is h4 5 b5 (cs' := #[b0, b1, b2, b3, b4, b5, a6]) rfl
    have h6 := Blk.set_is h5 6 b6 (cs' := #[b0, b1, b2, b3, b4, b5, b6]) rfl
    exact h6
  · refine Chg.setCell (S := (· = g)) (p := ⟨g, 6, none⟩) ?_ (fun _ => rfl) _
    refine Chg.setCell (S := (· = g)) (p := ⟨g, 5, none⟩) ?_ (fun _ => rfl) _
    refine Chg.setCell (S := (· = g)) (p := ⟨g, 4, none⟩) ?_ (fun _ => rfl) _
    refine Chg.setCell (S := (· = g)) (p := ⟨g, 3, none⟩) ?_ (fun _ => rfl) _
    refine Chg.setCell (S := (· = g)) (p := ⟨g, 2, none⟩) ?_ (fun _ => rfl) _
    refine Chg.setCell (S := (· = g)) (p := ⟨g, 1, none⟩) ?_ (fun _ => rfl) _
    refine Chg.setCell (S := (· = g)) (p := ⟨g, 0, none⟩) ?_ (fun _ => rfl) _
    exact Chg.refl _ _
theorem store8 {w : World} {g : Nat} {t : TypeId} {a0 a1 a2 a3 a4 a5 a6 a7 b0 b1 b2 b3 b4 b5 b6 b7 : Value} (h : Blk w g t #[a0, a1, a2, a3, a4, a5, a6, a7]) :
    Blk ((((((((w.setCell ⟨g, 0, none⟩ b0).setCell ⟨g, 1, none⟩ b1).setCell ⟨g, 2, none⟩ b2).setCell ⟨g, 3, none⟩ b3).setCell ⟨g, 4, none⟩ b4).setCell ⟨g, 5, none⟩ b5).setCell ⟨g, 6, none⟩ b6).setCell ⟨g, 7, none⟩ b7) g t #[b0, b1, b2, b3, b4, b5, b6, b7] ∧ Chg (· = g) w ((((((((w.setCell ⟨g, 0, none⟩ b0).setCell ⟨g, 1, none⟩ b1).setCell ⟨g, 2, none⟩ b2).setCell ⟨g, 3, none⟩ b3).setCell ⟨g, 4, none⟩ b4).setCell ⟨g, 5, none⟩ b5).setCell ⟨g, 6, none⟩ b6).setCell ⟨g, 7, none⟩ b7) := by
  refine ⟨?_, ?_⟩
  · have h0 := Blk.set_is h 0 b0 (cs' := #[b0, a1, a2, a3, a4, a5, a6, a7]) rfl
    have h1 := Blk.set_is h0 1 b1 (cs' := #[b0, b1, a2, a3, a4, a5, a6, a7]) rfl
    have h2 := Blk.set_is h1 2 b2 (cs' := #[b0, b1, b2, a3, a4, a5, a6, a7]) rfl
    have h3 := Blk.set_is h2 3 b3 (cs' := #[b0, b1, b2, b3, a4, a5, a6, a7]) rfl
    have h4 := Blk.set_is h3 4 b4 (cs' := #[b0, b1, b2, b3, b4, a5, a6, a7]) rfl
    have h5 := Blk.set_is h4 5 b5 (cs' := #[b0, b1, b2, b3, b4, b5, a6, a7]) rfl
    have h6 := Blk.set_is h5 6 b6 (cs' := #[b0, b1, b2, b3, b4, b5, b6, a7]) rfl
    have h7 := Blk.set_is h6 7 b7 (cs' := #[b0, b1, b2, b3, b4, b5, b6, b7]) rfl
    exact h7
  · refine Chg.setCell (S := (· = g)) (p := ⟨g, 7, none⟩) ?_ (fun _ => rfl) _
    refine Chg.setCell (S := (· = g)) (p := ⟨g, 6, none⟩) ?_ (fun _ => rfl) _
    refine Chg.setCell (S := (· = g)) (p := ⟨g, 5, none⟩) ?_ (fun _ => rfl) _
    refine Chg.setCell (S := (· = g)) (p := ⟨g, 4, none⟩) ?_ (fun _ => rfl) _
    refine Chg.setCell (S := (· = g)) (p := ⟨g, 3, none⟩) ?_ (fun _ => rfl) _
    refine Chg.setCell (S := (· = g)) (p := ⟨g, 2, none⟩) ?_ (fun _ => rfl) _
    refine Chg.setCell (S := (· = g)) (p := ⟨g, 1, none⟩) ?_ (fun _ => rfl) _
    refine Chg.setCell (S := (· = g)) (p := ⟨g, 0, none⟩) ?_ (fun _ => rfl) _
    exact Chg.refl _ _
theorem store9 {w : World} {g : Nat} {t : TypeId} {a0 a1 a2 a3 a4 a5 a6 a7 a8 b0 b1 b2 b3 b4 b5 b6 b7 b8 : Value} (h : Blk w g t #[a0, a1, a2, a3, a4, a5, a6, a7, a8]) :
    Blk (((((((((w.setCell ⟨g, 0, none⟩ b0).setCell ⟨g, 1, none⟩ b1).setCell ⟨g, 2, none⟩ b2).setCell ⟨g, 3, none⟩ b3).setCell ⟨g, 4, none⟩ b4).setCell ⟨g, 5, none⟩ b5).setCell ⟨g, 6, none⟩ b6).setCell ⟨g, 7, none⟩ b7).setCell ⟨g, 8, none⟩ b8) g t #[b0, b1, b2, b3, b4, b5, b6, b7, b8] ∧ Chg (· = g) w (((((((((w.setCell ⟨g, 0, none⟩ b0).setCell ⟨g, 1, none⟩ b1).setCell ⟨g, 2, none⟩ b2).setCell ⟨g, 3, none⟩ b3).setCell ⟨g, 4, none⟩ b4).setCell ⟨g, 5, none⟩ b5).setCell ⟨g, 6, none⟩ b6).setCell ⟨g, 7, none⟩ b7).setCell ⟨g, 8, none⟩ b8) := by
  refine ⟨?_, ?_⟩
  · have h0 := Blk.set_is h 0 b0 (cs' := #[b0, a1, a2, a3, a4, a5, a6, a7, a8]) rfl
    have h1 := Blk.set_is h0 1 b1 (cs' := #[b0, b1, a2, a3, a4, a5, a6, a7, a8]) rfl
    have h2 := Blk.set_is h1 2 b2 (cs' := #[b0, b1, b2, a3, a4, a5, a6, a7, a8]) rfl
    have h3 := Blk.set_is h2 3 b3 (cs' := #[b0, b1, b2, b3, a4, a5, a6, a7, a8]) rfl
    have h4 := Blk.set_is h3 4 b4 (cs' := #[b0, b1, b2, b3, b4, a5, a6, a7, a8]) rfl
    have h5 := Blk.set_is h4 5 b5 (cs' := #[b0, b1, b2, b3, b4, b5, a6, a7, a8]) rfl
    have h6 := Blk.set_is h5 6 b6 (cs' := #[b0, b1, b2, b3, b4, b5, b6, a7, a8]) rfl
    have h7 := Blk.set_is h6 7 b7 (cs' := #[b0, b1, b2, b3, b4, b5, b6, b7, a8]) rfl
    have h8 := Blk.set_is h7 8 b8 (cs' := #[b0, b1, b2, b3, b4, b5, b6, b7, b8]) rfl
    exact h8
  · refine Chg.setCell (S := (· = g)) (p := ⟨g, 8, none⟩) ?_ (fun _ => rfl) _
    refine Chg.setCell (S := (· = g)) (p := ⟨g, 7, none⟩) ?_ (fun _ => rfl) _
    refine Chg.setCell (S := (· = g)) (p := ⟨g, 6, none⟩) ?_ (fun _ => rfl) _
    refine Chg.setCell (S := (· = g)) (p := ⟨g, 5, none⟩) ?_ (fun _ => rfl) _
    refine Chg.setCell (S := (· = g)) (p := ⟨g, 4, none⟩) ?_ (fun _ => rfl) _
    refine Chg.setCell (S := (· = g)) (p := ⟨g, 3, none⟩) ?_ (fun _ => rfl) _
    refine Chg.setCell (S := (· = g)) (p := ⟨g, 2, none⟩) ?_ (fun _ => rfl) _
    refine Chg.setCell (S := (· = g)) (p := ⟨g, 1, none⟩) ?_ (fun _ => rfl) _
    refine Chg.setCell (S := (· = g)) (p := ⟨g, 0, none⟩) ?_ (fun _ => rfl) _
    exact Chg.refl _ _
theorem store10 {w : World} {g : Nat} {t : TypeId} {a0 a1 a2 a3 a4 a5 a6 a7 a8 a9 b0 b1 b2 b3 b4 b5 b6 b7 b8 b9 : Value} (h : Blk w g t #[a0, a1, a2, a3, a4, a5, a6, a7, a8, a9]) :
    Blk ((((((((((w.setCell ⟨g, 0, none⟩ b0).setCell ⟨g, 1, none⟩ b1).setCell ⟨g, 2, none⟩ b2).setCell ⟨g, 3, none⟩ b3).setCell ⟨g, 4, none⟩ b4).setCell ⟨g, 5, none⟩ b5).setCell ⟨g, 6, none⟩ b6).setCell ⟨g, 7, none⟩ b7).setCell ⟨g, 8, none⟩ b8).setCell ⟨g, 9, none⟩ b9) g t #[b0, b1, b2, b3, b4, b5, b6, b7, b8, b9] ∧ Chg (· = g) w ((((((((((w.setCell ⟨g, 0, none⟩ b0).setCell ⟨g, 1, none⟩ b1).setCell ⟨g, 2, none⟩ b2).setCell ⟨g, 3, none⟩ b3).setCell ⟨g, 4, none⟩ b4).setCell ⟨g, 5, none⟩ b5).setCell ⟨g, 6, none⟩ b6).setCell ⟨g, 7, none⟩ b7).setCell ⟨g, 8, none⟩ b8).setCell ⟨g, 9, none⟩ b9) := by
  refine ⟨?_, ?_⟩
  · have h0 := Blk.set_is h 0 b0 (cs' := #[b0, a1, a2, a3, a4, a5, a6, a7, a8, a9]) rfl
    have h1 := Blk.set_is h0 1 b1 (cs' := #[b0, b1, a2, a3, a4, a5, a6, a7, a8, a9]) rfl
    have h2 := Blk.set_is h1 2 b2 (cs' := #[b0, b1, b2, a3, a4, a5, a6, a7, a8, a9]) rfl
    have h3 := Blk.set_is h2 3 b3 (cs' := #[b0, b1, b2, b3, a4, a5, a6, a7, a8, a9]) rfl
    have h4 := Blk.set_is h3 4 b4 (cs' := #[b0, b1, b2, b3, b4, a5, a6, a7, a8, a9]) rfl
    have h5 := Blk.set_is h4 5 b5 (cs' := #[b0, b1, b2, b3, b4, b5, a6, a7, a8, a9]) rfl
    have h6 := Blk.set_is h5 6 b6 (cs' := #[b0, b1, b2, b3, b4, b5, b6, a7, a8, a9]) rfl
    have h7 := Blk.set_is h6 7 b7 (cs' := #[b0, b1, b2, b3, b4, b5, b6, b7, a8, a9]) rfl
    have h8 := Blk.set_is h7 8 b8 (cs' := #[b0, b1, b2, b3, b4, b5, b6, b7, b8, a9]) rfl
    have h9 := Blk.set_is h8 9 b9 (cs' := #[b0, b1, b2, b3, b4, b5, b6, b7, b8, b9]) rfl
    exact h9
  · refine Chg.setCell (S := (· = g)) (p := ⟨g, 9, none⟩) ?_ (fun _ => rfl) _
    refine Chg.setCell (S := (· = g)) (p := ⟨g, 8, none⟩) ?_ (fun _ => rfl) _
    refine Chg.setCell (S := (· = g)) (p := ⟨g, 7, none⟩) ?_ (fun _ => rfl) _
    refine Chg.setCell (S := (· = g)) (p := ⟨g, 6, none⟩) ?_ (fun _ => rfl) _
    refine Chg.setCell (S := (· = g)) (p := ⟨g, 5, none⟩) ?_ (fun _ => rfl) _
    refine Chg.setCell (S := (· = g)) (p := ⟨g, 4, none⟩) ?_ (fun _ => rfl) _
    refine Chg.setCell (S := (· = g)) (p := ⟨g, 3, none⟩) ?_ (fun _ => rfl) _
    refine Chg.setCell (S := (· = g)) (p := ⟨g, 2, none⟩) ?_ (fun _ => rfl) _
    refine Chg.setCell (S := (· = g)) (p := ⟨g, 1, none⟩) ?_ (fun _ => rfl) _
    refine Chg.setCell (S := (· = g)) (p := ⟨g, 0, none⟩) ?_ (fun _ => rfl) _
    exact Chg.refl _ _
theorem store11 {w : World} {g : Nat} {t : TypeId} {a0 a1 a2 a3 a4 a5 a6 a7 a8 a9 a10 b0 b1 b2 b3 b4 b5 b6 b7 b8 b9 b10 : Value} (h : Blk w g t #[a0, a1, a2, a3, a4, a5, a6, a7, a8, a9, a10]) :
    Blk (((((((((((w.setCell ⟨g, 0, none⟩ b0).setCell ⟨g, 1, none⟩ b1).setCell ⟨g, 2, none⟩ b2).setCell ⟨g, 3, none⟩ b3).setCell ⟨g, 4, none⟩ b4).setCell ⟨g, 5, none⟩ b5).setCell ⟨g, 6, none⟩ b6).setCell ⟨g, 7, none⟩ b7).setCell ⟨g, 8, none⟩ b8).setCell ⟨g, 9, none⟩ b9).setCell ⟨g, 10, none⟩ b10) g t #[b0, b1, b2, b3, b4, b5, b6, b7, b8, b9, b10] ∧ Chg (· = g) w (((((((((((w.setCell ⟨g, 0, none⟩ b0).setCell ⟨g, 1, none⟩ b1).setCell ⟨g, 2, none⟩ b2).setCell ⟨g, 3, none⟩ b3).setCell ⟨g, 4, none⟩ b4).setCell ⟨g, 5, none⟩ b5).setCell ⟨g, 6, none⟩ b6).setCell ⟨g, 7, none⟩ b7).setCell ⟨g, 8, none⟩ b8).setCell ⟨g, 9, none⟩ b9).setCell ⟨g, 10, none⟩ b10) := by
  refine ⟨?_, ?_⟩
  · have h0 := Blk.set_is h 0 b0 (cs' := #[b0, a1, a2, a3, a4, a5, a6, a7, a8, a9, a10]) rfl
    have h1 := Blk.set_is h0 1 b1 (cs' := #[b0, b1, a2, a3, a4, a5, a6, a7, a8, a9, a10]) rfl
    have h2 := Blk.set_is h1 2 b2 (cs' := #[b0, b1, b2, a3, a4, a5, a6, a7, a8, a9, a10]) rfl
    have h3 := Blk.set_is h2 3 b3 (cs' := #[b0, b1, b2, b3, a4, a5, a6, a7, a8, a9, a10]) rfl
    have h4 := Blk.set_is h3 4 b4 (cs' := #[b0, b1, b2, b3, b4, a5, a6, a7, a8, a9, a10]) rfl
    have h5 := Blk.set_is h4 5 b5 (cs' := #[b0, b1, b2, b3, b4, b5, a6, a7, a8, a9, a10]) rfl
    have h6 := Blk.set_is h5 6 b6 (cs' := #[b0, b1, b2, b3, b4, b5, b6, a7, a8, a9, a10]) rfl
    have h7 := Blk.set_is h6 7 b7 (cs' := #[b0, b1, b2, b3, b4, b5, b6, b7, a8, a9, a10]) rfl
    have h8 := Blk.set_is h7 8 b8 (cs' := #[b0, b1, b2, b3, b4, b5, b6, b7, b8, a9, a10]) rfl
    have h9 := Blk.set_is h8 9 b9 (cs' := #[b0, b1, b2, b3, b4, b5, b6, b7, b8, b9, a10]) rfl
    have h10 := Blk.set_is h9 10 b10 (cs' := #[b0, b1, b2, b3, b4, b5, b6, b7, b8, b9, b10]) rfl
    exact h10
  · refine Chg.setCell (S := (· = g)) (p := ⟨g, 10, none⟩) ?_ (fun _ => rfl) _
    refine Chg.setCell (S := (· = g)) (p := ⟨g, 9, none⟩) ?_ (fun _ => rfl) _
    refine Chg.setCell (S := (· = g)) (p := ⟨g, 8, none⟩) ?_ (fun _ => rfl) _
    refine Chg.setCell (S := (· = g)) (p := ⟨g, 7, none⟩) ?_ (fun _ => rfl) _
    refine Chg.setCell (S := (· = g)) (p := ⟨g, 6, none⟩) ?_ (fun _ => rfl) _
    refine Chg.setCell (S := (· = g)) (p := ⟨g, 5, none⟩) ?_ (fun _ => rfl) _
    refine Chg.setCell (S := (· = g)) (p := ⟨g, 4, none⟩) ?_ (fun _ => rfl) _
    refine Chg.setCell (S := (· = g)) (p := ⟨g, 3, none⟩) ?_ (fun _ => rfl) _
    refine Chg.setCell (S := (· = g)) (p := ⟨g, 2, none⟩) ?_ (fun _ => rfl) _
    refine Chg.setCell (S := (· = g)) (p := ⟨g, 1, none⟩) ?_ (fun _ => rfl) _
    refine Chg.setCell (S := (· = g)) (p := ⟨g, 0, none⟩) ?_ (fun _ => rfl) _
    exact Chg.refl _ _
theorem store12 {w : World} {g : Nat} {t : TypeId} {a0 a1 a2 a3 a4 a5 a6 a7 a8 a9 a10 a11 b0 b1 b2 b3 b4 b5 b6 b7 b8 b9 b10 b11 : Value} (h : Blk w g t #[a0, a1, a2, a3, a4, a5, a6, a7, a8, a9, a10, a11]) :
    Blk ((((((((((((w.setCell ⟨g, 0, none⟩ b0).setCell ⟨g, 1, none⟩ b1).setCell ⟨g, 2, none⟩ b2).setCell ⟨g, 3, none⟩ b3).setCell ⟨g, 4, none⟩ b4).setCell ⟨g, 5, none⟩ b5).setCell ⟨g, 6, none⟩ b6).setCell ⟨g, 7, none⟩ b7).setCell ⟨g, 8, none⟩ b8).setCell ⟨g, 9, none⟩ b9).setCell ⟨g, 10, none⟩ b10).setCell ⟨g, 11, none⟩ b11) g t #[b0, b1, b2, b3, b4, b5, b6, b7, b8, b9, b10, b11] ∧ Chg (· = g) w ((((((((((((w.setCell ⟨g, 0, none⟩ b0).setCell ⟨g, 1, none⟩ b1).setCell ⟨g, 2, none⟩ b2).setCell ⟨g, 3, none⟩ b3).setCell ⟨g, 4, none⟩ b4).setCell ⟨g, 5, none⟩ b5).setCell ⟨g, 6, none⟩ b6).setCell ⟨g, 7, none⟩ b7).setCell ⟨g, 8, none⟩ b8).setCell ⟨g, 9, none⟩ b9).setCell ⟨g, 10, none⟩ b10).setCell ⟨g, 11, none⟩ b11) := by
  refine ⟨?_, ?_⟩
  · have h0 := Blk.set_is h 0 b0 (cs' := #[b0, a1, a2, a3, a4, a5, a6, a7, a8, a9, a10, a11]) rfl
    have h1 := Blk.set_is h0 1 b1 (cs' := #[b0, b1, a2, a3, a4, a5, a6, a7, a8, a9, a10, a11]) rfl
    have h2 := Blk.set_is h1 2 b2 (cs' := #[b0, b1, b2, a3, a4, a5, a6, a7, a8, a9, a10, a11]) rfl
    have h3 := Blk.set_is h2 3 b3 (cs' := #[b0, b1, b2, b3, a4, a5, a6, a7, a8, a9, a10, a11]) rfl
    have h4 := Blk.set_is h3 4 b4 (cs' := #[b0, b1, b2, b3, b4, a5, a6, a7, a8, a9, a10, a11]) rfl
    have h5 := Blk.set_is h4 5 b5 (cs' := #[b0, b1, b2, b3, b4, b5, a6, a7, a8, a9, a10, a11]) rfl
    have h6 := Blk.set_is h5 6 b6 (cs' := #[b0, b1, b2, b3, b4, b5, b6, a7, a8, a9, a10, a11]) rfl
    have h7 := Blk.set_is h6 7 b7 (cs' := #[b0, b1, b2, b3, b4, b5, b6, b7, a8, a9, a10, a11]) rfl
    have h8 := Blk.set_is h7 8 b8 (cs' := #[b0, b1, b2, b3, b4, b5, b6, b7, b8, a9, a10, a11]) rfl
    have h9 := Blk.set_is h8 9 b9 (cs' := #[b0, b1, b2, b3, b4, b5, b6, b7, b8, b9, a10, a11]) rfl
    have h10 := Blk.set_is h9 10 b10 (cs' := #[b0, b1, b2, b3, b4, b5, b6, b7, b8, b9, b10, a11]) rfl
    have h11 := Blk.set_is h10 11 b11 (cs' := #[b0, b1, b2, b3, b4, b5, b6, b7, b8, b9, b10, b11]) rfl
    exact h11
  · refine Chg.setCell (S := (· = g)) (p := ⟨g, 11, none⟩) ?_ (fun _ => rfl) _
    refine Chg.setCell (S := (· = g)) (p := ⟨g, 10, none⟩) ?_ (fun _ => rfl) _
    refine Chg.setCell (S := (· = g)) (p := ⟨g, 9, none⟩) ?_ (fun _ => rfl) _
    refine Chg.setCell (S := (· = g)) (p := ⟨g, 8, none⟩) ?_ (fun _ => rfl) _
    refine Chg.setCell (S := (· = g)) (p := ⟨g, 7, none⟩) ?_ (fun _ => rfl) _
    refine Chg.setCell (S := (· = g)) (p := ⟨g, 6, none⟩) ?_ (fun _ => rfl) _
    refine Chg.setCell (S := (· = g)) (p := ⟨g, 5, none⟩) ?_ (fun _ => rfl) _
    refine Chg.setCell (S := (· = g)) (p := ⟨g, 4, none⟩) ?_ (fun _ => rfl) _
    refine Chg.setCell (S := (· = g)) (p := ⟨g, 3, none⟩) ?_ (fun _ => rfl) _
    refine Chg.setCell (S := (· = g)) (p := ⟨g, 2, none⟩) ?_ (fun _ => rfl) _
    refine Chg.setCell (S := (· = g)) (p := ⟨g, 1, none⟩) ?_ (fun _ => rfl) _
    refine Chg.setCell (S := (· = g)) (p := ⟨g, 0, none⟩) ?_ (fun _ => rfl) _
    exact Chg.refl _ _
theorem store13 {w : World} {g : Nat} {t : TypeId} {a0 a1 a2 a3 a4 a5 a6 a7 a8 a9 a10 a11 a12 b0 b1 b2 b3 b4 b5 b6 b7 b8 b9 b10 b11 b12 : Value} (h : Blk w g t #[a0, a1, a2, a3, a4, a5, a6, a7, a8, a9, a10, a11, a12]) :
    Blk (((((((((((((w.setCell ⟨g, 0, none⟩ b0).setCell ⟨g, 1, none⟩ b1).setCell ⟨g, 2, none⟩ b2).setCell ⟨g, 3, none⟩ b3).setCell ⟨g, 4, none⟩ b4).setCell ⟨g, 5, none⟩ b5).setCell ⟨g, 6, none⟩ b6).setCell ⟨g, 7, none⟩ b7).setCell ⟨g, 8, none⟩ b8).setCell ⟨g, 9, none⟩ b9).setCell ⟨g, 10, none⟩ b10).setCell ⟨g, 11, none⟩ b11).setCell ⟨g, 12, none⟩ b12) g t #[b0, b1, b2, b3, b4, b5, b6, b7, b8, b9, b10, b11, b12] ∧ Chg (· = g) w (((((((((((((w.setCell ⟨g, 0, none⟩ b0).setCell ⟨g, 1, none⟩ b1).setCell ⟨g, 2, none⟩ b2).setCell ⟨g, 3, none⟩ b3).setCell ⟨g, 4, none⟩ b4).setCell ⟨g, 5, none⟩ b5).setCell ⟨g, 6, none⟩ b6).setCell ⟨g, 7, none⟩ b7).setCell ⟨g, 8, none⟩ b8).setCell ⟨g, 9, none⟩ b9).setCell ⟨g, 10, none⟩ b10).setCell ⟨g, 11, none⟩ b11).setCell ⟨g, 12, none⟩ b12) := by
  refine ⟨?_, ?_⟩
  · have h0 := Blk.set_is h 0 b0 (cs' := #[b0, a1, a2, a3, a4, a5, a6, a7, a8, a9, a10, a11, a12]) rfl
    have h1 := Blk.set_is h0 1 b1 (cs' := #[b0, b1, a2, a3, a4, a5, a6, a7, a8, a9, a10, a11, a12]) rfl
    have h2 := Blk.set_is h1 2 b2 (cs' := #[b0, b1, b2, a3, a4, a5, a6, a7, a8, a9, a10, a11, a12]) rfl
    have h3 := Blk.set_is h2 3 b3 (cs' := #[b0, b1, b2, b3, a4, a5, a6, a7, a8, a9, a10, a11, a12]) rfl
    have h4 := Blk.set_is h3 4 b4 (cs' := #[b0, b1, b2, b3, b4, a5, a6, a7, a8, a9, a10, a11, a12]) rfl
    have h5 := Blk.set_is h4 5 b5 (cs' := #[b0, b1, b2, b3, b4, b5, a6, a7, a8, a9, a10, a11, a12]) rfl
    have h6 := Blk.set_is h5 6 b6 (cs' := #[b0, b1, b2, b3, b4, b5, b6, a7, a8, a9, a10, a11, a12]) rfl
    have h7 := Blk.set_is h6 7 b7 (cs' := #[b0, b1, b2, b3, b4, b5, b6, b7, a8, a9, a10, a11, a12]) rfl
    have h8 := Blk.set_is h7 8 b8 (cs' := #[b0, b1, b2, b3, b4, b5, b6, b7, b8, a9, a10, a11, a12]) rfl
    have h9 := Blk.set_is h8 9 b9 (cs' := #[b0, b1, b2, b3, b4, b5, b6, b7, b8, b9, a10, a11, a12]) rfl
    have h10 := Blk.set_is h9 10 b10 (cs' := #[b0, b1, b2, b3, b4, b5, b6, b7, b8, b9, b10, a11, a12]) rfl
    have h11 := Blk.set_is h10 11 b11 (cs' := #[b0, b1, b2, b3, b4, b5, b6, b7, b8, b9, b10, b11, a12]) rfl
    have h12 := Blk.set_is h11 12 b12 (cs' := #[b0, b1, b2, b3, b4, b5, b6, b7, b8, b9, b10, b11, b12]) rfl
    exact h12
  · refine Chg.setCell (S := (· = g)) (p := ⟨g, 12, none⟩) ?_ (fun _ => rfl) _
    refine Chg.setCell (S := (· = g)) (p := ⟨g, 11, none⟩) ?_ (fun _ => rfl) _
    refine Chg.setCell (S := (· = g)) (p := ⟨g, 10, none⟩) ?_ (fun _ => rfl) _
    refine Chg.setCell (S := (· = g)) (p := ⟨g, 9, none⟩) ?_ (fun _ => rfl) _
    refine Chg.setCell (S := (· = g)) (p := ⟨g, 8, none⟩) ?_ (fun _ => rfl) _
    refine Chg.setCell (S := (· = g)) (p := ⟨g, 7, none⟩) ?_ (fun _ => rfl) _
    refine Chg.setCell (S := (· = g)) (p := ⟨g, 6, none⟩) ?_ (fun _ => rfl) _
    refine Chg.setCell (S := (· = g)) (p := ⟨g, 5, none⟩) ?_ (fun _ => rfl) _
    refine Chg.setCell (S := (· = g)) (p := ⟨g, 4, none⟩) ?_ (fun _ => rfl) _
    refine Chg.setCell (S := (· = g)) (p := ⟨g, 3, none⟩) ?_ (fun _ => rfl) _
    refine Chg.setCell (S := (· = g)) (p := ⟨g, 2, none⟩) ?_ (fun _ => rfl) _
    refine Chg.setCell (S := (· = g)) (p := ⟨g, 1, none⟩) ?_ (fun _ => rfl) _
    refine Chg.setCell (S := (· = g)) (p := ⟨g, 0, none⟩) ?_ (fun _ => rfl) _
    exact Chg.refl _ _
theorem store14 {w : World} {g : Nat} {t : TypeId} {a0 a1 a2 a3 a4 a5 a6 a7 a8 a9 a10 a11 a12 a13 b0 b1 b2 b3 b4 b5 b6 b7 b8 b9 b10 b11 b12 b13 : Value} (h : Blk w g t #[a0, a1, a2, a3, a4, a5, a6, a7, a8, a9, a10, a11, a12, a13]) :
    Blk ((((((((((((((w.setCell ⟨g, 0, none⟩ b0).setCell ⟨g, 1, none⟩ b1).setCell ⟨g, 2, none⟩ b2).setCell ⟨g, 3, none⟩ b3).setCell ⟨g, 4, none⟩ b4).setCell ⟨g, 5, none⟩ b5).setCell ⟨g, 6, none⟩ b6).setCell ⟨g, 7, none⟩ b7).setCell ⟨g, 8, none⟩ b8).setCell ⟨g, 9, none⟩ b9).setCell ⟨g, 10, none⟩ b10).setCell ⟨g, 11, none⟩ b11).setCell ⟨g, 12, none⟩ b12).setCell ⟨g, 13, none⟩ b13) g t #[b0, b1, b2, b3, b4, b5, b6, b7, b8, b9, b10, b11, b12, b13] ∧ Chg (· = g) w ((((((((((((((w.setCell ⟨g, 0, none⟩ b0).setCell ⟨g, 1, none⟩ b1).setCell ⟨g, 2, none⟩ b2).setCell ⟨g, 3, none⟩ b3).setCell ⟨g, 4, none⟩ b4).setCell ⟨g, 5, none⟩ b5).setCell ⟨g, 6, none⟩ b6).setCell ⟨g, 7, none⟩ b7).setCell ⟨g, 8, none⟩ b8).setCell ⟨g, 9, none⟩ b9).setCell ⟨g, 10, none⟩ b10).setCell ⟨g, 11, none⟩ b11).setCell ⟨g, 12, none⟩ b12).setCell ⟨g, 13, none⟩ b13) := by
  refine ⟨?_, ?_⟩
  · have h0 := Blk.set_is h 0 b0 (cs' := #[b0, a1, a2, a3, a4, a5, a6, a7, a8, a9, a10, a11, a12, a13]) rfl
    have h1 := Blk.set_is h0 1 b1 (cs' := #[b0, b1, a2, a3, a4, a5, a6, a7, a8, a9, a10, a11, a12, a13]) rfl
    have h2 := Blk.set_is h1 2 b2 (cs' := #[b0, b1, b2, a3, a4, a5, a6, a7, a8, a9, a10, a11, a12, a13]) rfl
    have h3 := Blk.set_is h2 3 b3 (cs' := #[b0, b1, b2, b3, a4, a5, a6, a7, a8, a9, a10, a11, a12, a13]) rfl
    have h4 := Blk.set_is h3 4 b4 (cs' := #[b0, b1, b2, b3, b4, a5, a6, a7, a8, a9, a10, a11, a12, a13]) rfl
    have h5 := Blk.set_is h4 5 b5 (cs' := #[b0, b1, b2, b3, b4, b5, a6, a7, a8, a9, a10, a11, a12, a13]) rfl
    have h6 := Blk.set_is h5 6 b6 (cs' := #[b0, b1, b2, b3, b4, b5, b6, a7, a8, a9, a10, a11, a12, a13]) rfl
    have h7 := Blk.set_is h6 7 b7 (cs' := #[b0, b1, b2, b3, b4, b5, b6, b7, a8, a9, a10, a11, a12, a13]) rfl
    have h8 := Blk.set_is h7 8 b8 (cs' := #[b0, b1, b2, b3, b4, b5, b6, b7, b8, a9, a10, a11, a12, a13]) rfl
    have h9 := Blk.set_is h8 9 b9 (cs' := #[b0, b1, b2, b3, b4, b5, b6, b7, b8, b9, a10, a11, a12, a13]) rfl
    have h10 := Blk.set_is h9 10 b10 (cs' := #[b0, b1, b2, b3, b4, b5, b6, b7, b8, b9, b10, a11, a12, a13]) rfl
    have h11 := Blk.set_is h10 11 b11 (cs' := #[b0, b1, b2, b3, b4, b5, b6, b7, b8, b9, b10, b11, a12, a13]) rfl
    have h12 := Blk.set_is h11 12 b12 (cs' := #[b0, b1, b2, b3, b4, b5, b6, b7, b8, b9, b10, b11, b12, a13]) rfl
    have h13 := Blk.set_is h12 13 b13 (cs' := #[b0, b1, b2, b3, b4, b5, b6, b7, b8, b9, b10, b11, b12, b13]) rfl
    exact h13
  · refine Chg.setCell (S := (· = g)) (p := ⟨g, 13, none⟩) ?_ (fun _ => rfl) _
    refine Chg.setCell (S := (· = g)) (p := ⟨g, 12, none⟩) ?_ (fun _ => rfl) _
    refine Chg.setCell (S := (· = g)) (p := ⟨g, 11, none⟩) ?_ (fun _ => rfl) _
    refine Chg.setCell (S := (· = g)) (p := ⟨g, 10, none⟩) ?_ (fun _ => rfl) _
    refine Chg.setCell (S := (· = g)) (p := ⟨g, 9, none⟩) ?_ (fun _ => rfl) _
    refine Chg.setCell (S := (· = g)) (p := ⟨g, 8, none⟩) ?_ (fun _ => rfl) _
    refine Chg.setCell (S := (· = g)) (p := ⟨g, 7, none⟩) ?_ (fun _ => rfl) _
    refine Chg.setCell (S := (· = g)) (p := ⟨g, 6, none⟩) ?_ (fun _ => rfl) _
    refine Chg.setCell (S := (· = g)) (p := ⟨g, 5, none⟩) ?_ (fun _ => rfl) _
    refine Chg.setCell (S := (· = g)) (p := ⟨g, 4, none⟩) ?_ (fun _ => rfl) _
    refine Chg.setCell (S := (· = g)) (p := ⟨g, 3, none⟩) ?_ (fun _ => rfl) _
    refine Chg.setCell (S := (· = g)) (p := ⟨g, 2, none⟩) ?_ (fun _ => rfl) _
    refine Chg.setCell (S := (· = g)) (p := ⟨g, 1, none⟩) ?_ (fun _ => rfl) _
    refine Chg.setCell (S := (· = g)) (p := ⟨g, 0, none⟩) ?_ (fun _ => rfl) _
    exact Chg.refl _ _
/-- Blocks laid one behind the other, and what comes behind. -/
theorem laid1 {w w1 : World} {t0 : TypeId} {c0 : Array Value} (hb : Below (w.alloc (.cells c0 t0)).heap.size (w.alloc (.cells c0 t0)) w1) :
    Blk w1 w.heap.size t0 c0 ∧ Below w.heap.size w w1 ∧ w.heap.size + 1 ≤ w1.heap.size :=
  ⟨(Blk.new _ _ _).below hb, (below_alloc _ _).trans (hb.mono (by simp)), by have := hb.size; simpa using this⟩
theorem laid2 {w w1 : World} {t0 t1 : TypeId} {c0 c1 : Array Value} (hb : Below ((w.alloc (.cells c0 t0)).alloc (.cells c1 t1)).heap.size ((w.alloc (.cells c0 t0)).alloc (.cells c1 t1)) w1) :
    Blk w1 w.heap.size t0 c0 ∧ Blk w1 (w.heap.size + 1) t1 c1 ∧ Below w.heap.size w w1 ∧ w.heap.size + 2 ≤ w1.heap.size := by
  have h1 := Blk.new (w.alloc (.cells c0 t0)) t1 c1
  rw [World.size_alloc] at h1
  exact ⟨((Blk.new _ _ _).alloc _).below hb, h1.below hb, ((below_alloc _ _).alloc (by simp) _).trans (hb.mono (by simp; omega)), by have := hb.size; simp at this; omega⟩
theorem laid3 {w w1 : World} {t0 t1 t2 : TypeId} {c0 c1 c2 : Array Value} (hb : Below (((w.alloc (.cells c0 t0)).alloc (.cells c1 t1)).alloc (.cells c2 t2)).heap.size (((w.alloc (.cells c0 t0)).alloc (.cells c1 t1)).alloc (.cells c2 t2)) w1) :
    Blk w1 w.heap.size t0 c0 ∧ Blk w1 (w.heap.size + 1) t1 c1 ∧ Blk w1 (w.heap.size + 1 + 1) t2 c2 ∧ Below w.heap.size w w1 ∧ w.heap.size + 3 ≤ w1.heap.size := by
  have h1 := Blk.new (w.alloc (.cells c0 t0)) t1 c1
  have h2 := Blk.new ((w.alloc (.cells c0 t0)).alloc (.cells c1 t1)) t2 c2
  simp only [World.size_alloc] at h1 h2
  exact ⟨(((Blk.new _ _ _).alloc _).alloc _).below hb, (h1.alloc _).below hb, h2.below hb, (((below_alloc _ _).alloc (by simp) _).alloc (by simp; omega) _).trans (hb.mono (by simp; omega)), by have := hb.size; simp at this; omega⟩
end Go.Proofs.Ythkphapmnlndbab.Flow
