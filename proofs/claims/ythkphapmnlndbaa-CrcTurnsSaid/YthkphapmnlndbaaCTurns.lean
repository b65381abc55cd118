/- CrcTurns: for every text, place and bits the law returns true. No condition. -/
import Derived.Test.YthkphapmnlndbaaRows
import Derived.Test.YthkphapmnlndbaaCrcSpeaks
import Derived.Test.YthkphapmnlndbaaRefCrc
import Derived.Test.YthkphapmnlndbaaOpen
import Derived.Deep.DeepCutAuto
namespace Go.Proofs.Ythkphapmnlndbaa.CTurns
open Go.ChangeShapes Go.WideShapes Go.ChangeAt Go.RowKit Go.ChangeMaps CrcPlain
set_option maxHeartbeats 1000000
set_option linter.unusedSimpArgs false
set_option maxRecDepth 20000 in
theorem walk (s : ByteArray) (at_ : Int) (b : Nat) (w : World) (hs : s.size ≤ maxLen) (ha : -9223372036854775808 ≤ at_ ∧ at_ ≤ 9223372036854775807) (hb : b < 4294967296) :
    Calls Try.prog 4 #[.string s, .int .i64 at_, .int .u32 (b : Int)] w fun e w' => e = .returned (.bool true) ∧ Below w.heap.size w w' := by
  unfold maxLen at hs
  have HA := Flow.hide ha
  clear ha
  go_enter Try.func4, Try.ntmps4
  go_upto_region 3 with ((refine (speaks02 _).mono ?_; rintro e w1 ⟨rfl, b1⟩))
  have B1 := Flow.hide b1
  clear b1
  go_cut [0] (fun s0 wx => ∃ t : ByteArray, s0 = .string t ∧ t.size ≤ 100 ∧ Below w.heap.size w wx)
  case first =>
    by_cases h : 100 < s.size
    · go_wp2_with fail
      go_meet
      exact ⟨_, rfl, by rw [ByteArray.size_extract]; omega, B1.out⟩
    · go_wp2_with fail
      go_meet
      exact ⟨_, rfl, by omega, B1.out⟩
  case rest =>
    obtain ⟨t, rfl, ht, hb0⟩ := hcut
    have B0 := Flow.hide hb0
    clear hb0 B1
    go_wp2_with fail
    refine (turn_any t at_ b _ (by omega) HA.out hb).mono ?_
    rintro e w3 ⟨⟨y, rfl, hy⟩, hb3⟩
    have B3 := Flow.hide (B0.out.trans (hb3.mono B0.out.size))
    have HY := Flow.hide hy
    clear hb3 B0 hy
    go_wp2_with fail
    refine (rturn_any t at_ b _ (by omega) HA.out hb).mono ?_
    rintro e w4 ⟨⟨z, rfl, hz⟩, hb4⟩
    have B4 := Flow.hide (B3.out.trans (hb4.mono B3.out.size))
    obtain rfl : y = z := bs_inj (HY.out.unique hz)
    have e1 : (y.toList == y.toList) = true := by rw [str_beq]; exact decide_eq_true rfl
    have hyz : y.size = t.size := by rw [← bs_length y, HY.out.len, bs_length]
    have HZ : Hid (y.size ≤ 1004) := by rw [hyz]; show _ ≤ _; omega
    have HYZ := Flow.hide hyz
    clear hb4 B3 hz hyz
    go_wp2_with fail
    refine (turn_any y at_ b _ HZ.out HA.out hb).mono ?_
    rintro e w5 ⟨⟨x, rfl, hx⟩, hb5⟩
    have B5 := Flow.hide (B4.out.trans (hb5.mono B4.out.size))
    rw [HYZ.out] at hx
    obtain rfl : x = t := bs_inj (HY.out.back (bs_lt t) hx)
    have e2 : (x.toList == x.toList) = true := by rw [str_beq]; exact decide_eq_true rfl
    clear hb5 B4 hx
    go_wp2_with fail
    go_ret
    exact ⟨rfl, B5.out⟩

theorem own : ownKnob Try.prog.godebug = none := by kernel_rfl
theorem laidOut : laidOutB Try.prog = true := by kernel_rfl

set_option maxRecDepth 100000 in
theorem lifted (os : Os) (started : os.Started) (H : Type) (enc : TypeId × Value → H) :
    ReturnsInHanded {} Try.checked os 4 .any (Rows.crcTurnsSpec.pre6 enc Try.prog Try.f4 Rows.crcTurnsRow.domain false) (Rows.crcTurnsSpec.post enc Try.prog Try.f4 false true false false) := by
  refine returnsInHanded_of_change (C := Try.checked) own started (by kernel_rfl) Try.func4
    (ChangeSpec.witness6 (enc := enc) (C := Try.checked) false ⟨#[], #[.string ⟨#[]⟩, .int .i64 0, .int .u32 0], []⟩ 8 (by kernel_rfl) (by kernel_rfl) (by kernel_rfl) (by kernel_rfl)) ?_
  intro W base args ds gs before hval0 hW hcnd _
  have hval : ∀ (j : Nat) t v, Try.f4.params[j]? = some t → args[j]? = some v → Value.okWide Try.prog W .any base t v := hval0
  have hW' := hW
  obtain ⟨p, q, hA0, hV, rfl, hfz, hnd⟩ := hW
  have hA : DataW.TrodAll enc Try.prog W 0 (fun _ => true) true Try.f4.params.toList args.toList ds p := hA0
  rw [Try.params4] at hA hval
  obtain ⟨v0, v1, v2, d0, d1, d2, p0, p1, p2, hargs, rfl, rfl, h0, h1, h2⟩ := trodAll_three hA
  obtain ⟨rfl, rfl⟩ := trodVars_none hV
  subst hargs
  obtain ⟨x0, rfl, rfl, rfl, hlx0⟩ := open_string Try.underlying9 (hval 0 9 v0 rfl rfl) h0
  obtain ⟨x1, rfl, rfl, rfl, wx1⟩ := open_int Try.underlying3 (hval 1 3 v1 rfl rfl) h1
  obtain ⟨ix2, rfl, rfl, rfl, wix2⟩ := open_int Try.underlying24 (hval 2 24 v2 rfl rfl) h2
  have bx2 := bounds_u32 wix2
  obtain ⟨x2, hix2⟩ := Int.eq_ofNat_of_zero_le bx2.1
  subst hix2
  clear hA0 hval0
  refine (walk x0 x1 x2 W hlx0 (bounds_i64 wx1) (by omega)).mono fun e W' ⟨he, hb⟩ => ?_
  subst he
  exact ⟨_, rfl, Open.law_post laidOut (by kernel_rfl) (by kernel_rfl) Try.underlying4 rfl rfl hW' hb⟩

theorem over : Rows.crcTurnsRow.holds Try.pinned (OpenSpec.ofChange Rows.crcTurnsSpec) :=
  OpenClaim.holds_of_wide 4 Try.f4 rfl rfl rfl rfl rfl rfl rfl ⟨rfl, rfl, rfl, rfl, rfl⟩ rfl rfl rfl rfl rfl (by kernel_rfl) Try.func4 (by kernel_rfl)
    (of_decide_eq_true (by kernel_rfl)) (by unfold Func.isWrapper; first | (rw [if_pos (by decide +kernel)]; kernel_rfl) | (rw [if_neg (by decide +kernel)]; exact ⟨rfl, rfl⟩))
    (fun os started H enc _ => lifted os started H enc)

theorem proved : Rows.CrcTurnsSaid := over
#print axioms proved
end Go.Proofs.Ythkphapmnlndbaa.CTurns
