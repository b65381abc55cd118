/- Package history: the program's record out of the statement's. -/
import Derived.Test.YthkphapmnlndbabHist
import Derived.Laws.Tables
import Derived.Laws.Rows
namespace Go.Proofs.Ythkphapmnlndbab
open Go.RowKit
set_option maxHeartbeats 1000000
set_option linter.unusedSimpArgs false
theorem build106 (a b : Int) (w : World) : (Instr.build 106 #[(0, .int .i64 5), (1, .int .i64 a), (4, .int .i64 b)]).run Try.prog w = .ok (.agg #[.int .i64 5, .int .i64 a, .string ⟨#[]⟩, .bool false, .string ⟨#[]⟩, .int .i64 b]) w := run_build w 106 _ _ (by kernel_rfl)
theorem build109 (a : Int) (w : World) : (Instr.build 109 #[(0, .int .i64 a)]).run Try.prog w = .ok (.agg #[.int .i64 a, .bool false, .string ⟨#[]⟩]) w := run_build w 109 _ _ (by kernel_rfl)
theorem build28 (a : Int) (w : World) : (Instr.build 28 #[(0, .int .u32 a)]).run Try.prog w = .ok (.agg #[.int .u32 a, .int .u8 0]) w := run_build w 28 _ _ (by kernel_rfl)
theorem build30 (a b : Int) (w : World) : (Instr.build 30 #[(0, .agg #[.int .u32 a, .int .u8 b])]).run Try.prog w = .ok (.agg #[.int .u32 a, .int .u8 b, .int .u8 0]) w := run_build w 30 _ _ (by kernel_rfl)
theorem build111 (nd ss sq ky op st en er an : Int) (wr : Bool) (w : World) : (Instr.build 111 #[(0, .int .u8 nd), (1, .int .u32 ss), (2, .int .u32 sq), (3, .agg #[.int .i64 5, .int .i64 ky, .string ⟨#[]⟩, .bool false, .string ⟨#[]⟩, .int .i64 op]), (4, .int .i64 st), (5, .int .i64 en), (6, .agg #[.int .i64 er, .bool false, .string ⟨#[]⟩]), (7, .agg #[.int .u32 an, .int .u8 0, .int .u8 0]), (8, .bool wr)]).run Try.prog w = .ok (.agg #[.int .u8 nd, .int .u32 ss, .int .u32 sq, .int .i64 5, .int .i64 ky, .string ⟨#[]⟩, .bool false, .string ⟨#[]⟩, .int .i64 op, .int .i64 st, .int .i64 en, .int .i64 er, .bool false, .string ⟨#[]⟩, .int .u32 an, .int .u8 0, .int .u8 0, .bool wr]) w := run_build w 111 _ _ (by kernel_rfl)
/-- A whole row stored: only its block turned. -/
theorem chg_setRow {w : World} {g : Nat} {t : TypeId} {old cs : Array Value} (_ : Flow.Blk w g t old) : Flow.Chg (· = g) w (w.setRow g cs) :=
  ⟨setRow_os _ _ _, setRow_tape _ _ _, setRow_output _ _ _, by simp, fun k _ hk => setRow_other _ _ _ _ hk⟩
theorem blk_setRow {w : World} {g : Nat} {t : TypeId} {old cs : Array Value} (h : Flow.Blk w g t old) : Flow.Blk (w.setRow g cs) g t cs := setRow_heap _ _ _ _ _ _ h
set_option maxRecDepth 20000 in
theorem told43 (r : Rc) (w : World) (h : 0 ≤ r.op ∧ r.op ≤ 4294967295) :
    Calls Try.prog 43 #[.agg #[.int .u8 r.nd, .int .u32 r.ss, .int .u32 r.sq, .int .i64 r.ky, .int .u32 r.op, .int .i64 r.st, .int .i64 r.en, .int .i64 r.er, .int .u32 r.an, .bool r.wr]] w fun e w' => e = .returned (.agg #[.int .u8 r.nd, .int .u32 r.ss, .int .u32 r.sq, .int .i64 5, .int .i64 r.ky, .string ⟨#[]⟩, .bool false, .string ⟨#[]⟩, .int .i64 r.op, .int .i64 r.st, .int .i64 r.en, .int .i64 r.er, .bool false, .string ⟨#[]⟩, .int .u32 r.an, .int .u8 0, .int .u8 0, .bool r.wr]) ∧ Below w.heap.size w w' := by
  obtain ⟨nd, ss, sq, ky, op, st, en, er, an, wr⟩ := r
  simp only at h ⊢
  obtain ⟨ha, hb⟩ := h
  go_enter Try.func43, Try.ntmps43
  go_upto_region 1 with fail
  obtain ⟨K, K2, hh, hz⟩ := Flow.laid2 (w := w) (w1 := (w.alloc (.cells #[.int .u8 nd, .int .u32 ss, .int .u32 sq, .int .i64 ky, .int .u32 op, .int .i64 st, .int .i64 en, .int .i64 er, .int .u32 an, .bool wr] 104)).alloc (.cells #[.int .u8 0, .int .u32 0, .int .u32 0, .int .i64 0, .int .i64 0, .string ⟨#[]⟩, .bool false, .string ⟨#[]⟩, .int .i64 0, .int .i64 0, .int .i64 0, .int .i64 0, .bool false, .string ⟨#[]⟩, .int .u32 0, .int .u8 0, .int .u8 0, .bool false] 111)) (Below.refl _ _)
  revert K K2 hh
  clear hz
  generalize (w.alloc (.cells #[.int .u8 nd, .int .u32 ss, .int .u32 sq, .int .i64 ky, .int .u32 op, .int .i64 st, .int .i64 en, .int .i64 er, .int .u32 an, .bool wr] 104)).alloc (.cells #[.int .u8 0, .int .u32 0, .int .u32 0, .int .i64 0, .int .i64 0, .string ⟨#[]⟩, .bool false, .string ⟨#[]⟩, .int .i64 0, .int .i64 0, .int .i64 0, .int .i64 0, .bool false, .string ⟨#[]⟩, .int .u32 0, .int .u8 0, .int .u8 0, .bool false] 111) = w2
  intro K K2 hh
  have q := K.cell
  have z := K.lt
  have HH := Flow.hide hh
  have KK := Flow.hide K2
  clear K hh K2
  have b1 := build106 ky op
  have b2 := build109 er
  have b3 := build28 an
  have b4 := build30 an 0
  have b5 := build111 nd ss sq ky op st en er an wr
  have e1 : (#[.int .u8 nd, .int .u32 ss, .int .u32 sq, .int .i64 5, .int .i64 ky, .string ⟨#[]⟩, .bool false, .string ⟨#[]⟩, .int .i64 op, .int .i64 st, .int .i64 en, .int .i64 er, .bool false, .string ⟨#[]⟩, .int .u32 an, .int .u8 0, .int .u8 0, .bool wr] : Array Value).all (·.oneCell') = true := by first | kernel_rfl | simp [Value.oneCell']
  have e2 : (Try.prog.info? 111).map (·.size) = some (#[.int .u8 nd, .int .u32 ss, .int .u32 sq, .int .i64 5, .int .i64 ky, .string ⟨#[]⟩, .bool false, .string ⟨#[]⟩, .int .i64 op, .int .i64 st, .int .i64 en, .int .i64 er, .bool false, .string ⟨#[]⟩, .int .u32 an, .int .u8 0, .int .u8 0, .bool wr] : Array Value).size := by kernel_rfl
  iterate 80 go_step
  refine wp_store_row 111 _ _ rfl (w.heap.size + 1) #[.int .u8 nd, .int .u32 ss, .int .u32 sq, .int .i64 5, .int .i64 ky, .string ⟨#[]⟩, .bool false, .string ⟨#[]⟩, .int .i64 op, .int .i64 st, .int .i64 en, .int .i64 er, .bool false, .string ⟨#[]⟩, .int .u32 an, .int .u8 0, .int .u8 0, .bool wr] rfl rfl 111 #[.int .u8 0, .int .u32 0, .int .u32 0, .int .i64 0, .int .i64 0, .string ⟨#[]⟩, .bool false, .string ⟨#[]⟩, .int .i64 0, .int .i64 0, .int .i64 0, .int .i64 0, .bool false, .string ⟨#[]⟩, .int .u32 0, .int .u8 0, .int .u8 0, .bool false] KK.out e2 rfl e1 ?_
  have K3 := blk_setRow (cs := #[.int .u8 nd, .int .u32 ss, .int .u32 sq, .int .i64 5, .int .i64 ky, .string ⟨#[]⟩, .bool false, .string ⟨#[]⟩, .int .i64 op, .int .i64 st, .int .i64 en, .int .i64 er, .bool false, .string ⟨#[]⟩, .int .u32 an, .int .u8 0, .int .u8 0, .bool wr]) KK.out
  have C3 := chg_setRow (cs := #[.int .u8 nd, .int .u32 ss, .int .u32 sq, .int .i64 5, .int .i64 ky, .string ⟨#[]⟩, .bool false, .string ⟨#[]⟩, .int .i64 op, .int .i64 st, .int .i64 en, .int .i64 er, .bool false, .string ⟨#[]⟩, .int .u32 an, .int .u8 0, .int .u8 0, .bool wr]) KK.out
  have HB := Flow.hide (HH.out.trans (C3.below (B := w.heap.size) (fun j _ e => by omega) HH.out.size))
  clear KK q e1 e2 b1 b2 b3 b4 b5
  revert K3 HB
  clear C3 HH
  generalize w2.setRow (w.heap.size + 1) #[.int .u8 nd, .int .u32 ss, .int .u32 sq, .int .i64 5, .int .i64 ky, .string ⟨#[]⟩, .bool false, .string ⟨#[]⟩, .int .i64 op, .int .i64 st, .int .i64 en, .int .i64 er, .bool false, .string ⟨#[]⟩, .int .u32 an, .int .u8 0, .int .u8 0, .bool wr] = w3
  intro K3 HB
  have e3 : (Try.prog.info? 111).map (·.size) = some 18 := by kernel_rfl
  go_wp2_with fail
  refine bodyPost_ret (results_cell_row rfl _ _ (w.heap.size + 1) 111 _ (0, 0) _ rfl K3 Try.underlying111 rfl e3) rfl ?_
  exact ⟨rfl, HB.out⟩
end Go.Proofs.Ythkphapmnlndbab
