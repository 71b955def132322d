/- ClientNobody holds: a nil client returns ErrNil and zero values, whatever the arguments. -/
import Derived.Test.YtlnjhllfacmkoaaGreatCk2
import Derived.Test.YtlnjhllfacmkoaaGreatAm34
import Derived.Test.YtlnjhllfacmkoaaGreatRows
import Derived.ProofKit
import Derived.Deep.Slices
import Derived.Carry
set_option linter.unusedSimpArgs false
set_option linter.unusedVariables false
set_option maxRecDepth 100000
set_option maxHeartbeats 4000000
namespace Go.Proofs.YtlnjhllfacmkoaaGreat
open Go.Am Go.ChangeShapes Go.WideShapes Go.ChangeAt Go.RowKit

theorem Tryz.own : ownKnob Tryz.prog.godebug = none := by kernel_rfl
theorem Tryz.laidOut : laidOutB Tryz.prog = true := by kernel_rfl
theorem ce33 : Tryz.prog.cellsOf 33 = 13 := by kernel_rfl
theorem array13 {α : Type} {a : Array α} (h : a.size = 13) : ∃ x0 x1 x2 x3 x4 x5 x6 x7 x8 x9 x10 x11 x12, a = #[x0, x1, x2, x3, x4, x5, x6, x7, x8, x9, x10, x11, x12] := by
  obtain ⟨l⟩ := a
  match l, h with
  | [x0, x1, x2, x3, x4, x5, x6, x7, x8, x9, x10, x11, x12], _ => exact ⟨x0, x1, x2, x3, x4, x5, x6, x7, x8, x9, x10, x11, x12, rfl⟩
theorem open_ntp {H : Type} {enc : TypeId × Value → H} {W : World} {base : Nat} {v0 : Value} {d0 : DataW H} {p0 : List MemPlace} (hok : Value.okWide Tryz.prog W .any base 33 v0) (h0 : DataW.Trod enc Tryz.prog W 0 (fun _ => true) true 33 v0 d0 p0) :
    ∃ a0 a1 a2 a3 a4 a5 a6 a7 a8 a9 b0 b1 b2 : Int, v0 = .agg #[.int .i64 a0, .int .i64 a1, .int .i64 a2, .int .i64 a3, .int .i64 a4, .int .i64 a5, .int .u32 a6, .int .u32 a7, .int .u32 a8, .int .u64 a9, .int .u64 b0, .int .u64 b1, .int .u64 b2] := by
  obtain ⟨cs, rfl, hsz⟩ := okWide_struct Tryz.underlying33 hok
  obtain ⟨u0, u1, u2, u3, u4, u5, u6, u7, u8, u9, u10, u11, u12, rfl⟩ := array13 (hsz.trans ce33)
  obtain ⟨fuel, hf⟩ := h0
  have hf' : DataW.trod enc Tryz.prog W 0 (fun _ => true) true fuel 33 [u0, u1, u2, u3, u4, u5, u6, u7, u8, u9, u10, u11, u12] = some (d0, p0) := by simpa [Value.cells] using hf
  obtain ⟨xs, k, hk, hxy, _, hxl, hfs⟩ := DataW.trod_struct Tryz.underlying33 hf'
  have hxl5 : xs.length = 13 := hxl
  have y0 : DataW.trod enc Tryz.prog W 0 (fun _ => true) true k 3 [u0] = xs[0]? := hfs 0 _ rfl
  have y1 : DataW.trod enc Tryz.prog W 0 (fun _ => true) true k 3 [u1] = xs[1]? := hfs 1 _ rfl
  have y2 : DataW.trod enc Tryz.prog W 0 (fun _ => true) true k 3 [u2] = xs[2]? := hfs 2 _ rfl
  have y3 : DataW.trod enc Tryz.prog W 0 (fun _ => true) true k 3 [u3] = xs[3]? := hfs 3 _ rfl
  have y4 : DataW.trod enc Tryz.prog W 0 (fun _ => true) true k 3 [u4] = xs[4]? := hfs 4 _ rfl
  have y5 : DataW.trod enc Tryz.prog W 0 (fun _ => true) true k 3 [u5] = xs[5]? := hfs 5 _ rfl
  have y6 : DataW.trod enc Tryz.prog W 0 (fun _ => true) true k 31 [u6] = xs[6]? := hfs 6 _ rfl
  have y7 : DataW.trod enc Tryz.prog W 0 (fun _ => true) true k 31 [u7] = xs[7]? := hfs 7 _ rfl
  have y8 : DataW.trod enc Tryz.prog W 0 (fun _ => true) true k 31 [u8] = xs[8]? := hfs 8 _ rfl
  have y9 : DataW.trod enc Tryz.prog W 0 (fun _ => true) true k 22 [u9] = xs[9]? := hfs 9 _ rfl
  have y10 : DataW.trod enc Tryz.prog W 0 (fun _ => true) true k 22 [u10] = xs[10]? := hfs 10 _ rfl
  have y11 : DataW.trod enc Tryz.prog W 0 (fun _ => true) true k 22 [u11] = xs[11]? := hfs 11 _ rfl
  have y12 : DataW.trod enc Tryz.prog W 0 (fun _ => true) true k 22 [u12] = xs[12]? := hfs 12 _ rfl
  rw [List.getElem?_eq_getElem (by omega)] at y0 y1 y2 y3 y4 y5 y6 y7 y8 y9 y10 y11 y12
  obtain ⟨n0, e0, _⟩ := DataW.trod_int Tryz.underlying3 y0
  obtain ⟨n1, e1, _⟩ := DataW.trod_int Tryz.underlying3 y1
  obtain ⟨n2, e2, _⟩ := DataW.trod_int Tryz.underlying3 y2
  obtain ⟨n3, e3, _⟩ := DataW.trod_int Tryz.underlying3 y3
  obtain ⟨n4, e4, _⟩ := DataW.trod_int Tryz.underlying3 y4
  obtain ⟨n5, e5, _⟩ := DataW.trod_int Tryz.underlying3 y5
  obtain ⟨n6, e6, _⟩ := DataW.trod_int Tryz.underlying31 y6
  obtain ⟨n7, e7, _⟩ := DataW.trod_int Tryz.underlying31 y7
  obtain ⟨n8, e8, _⟩ := DataW.trod_int Tryz.underlying31 y8
  obtain ⟨n9, e9, _⟩ := DataW.trod_int Tryz.underlying22 y9
  obtain ⟨n10, e10, _⟩ := DataW.trod_int Tryz.underlying22 y10
  obtain ⟨n11, e11, _⟩ := DataW.trod_int Tryz.underlying22 y11
  obtain ⟨n12, e12, _⟩ := DataW.trod_int Tryz.underlying22 y12
  cases e0; cases e1; cases e2; cases e3; cases e4; cases e5; cases e6; cases e7; cases e8; cases e9; cases e10; cases e11; cases e12
  exact ⟨n0, n1, n2, n3, n4, n5, n6, n7, n8, n9, n10, n11, n12, rfl⟩
theorem clientNobody_lifted (os : Os) (started : os.Started) (H : Type) (enc : TypeId × Value → H) :
    ReturnsInHanded {} Tryz.checked os 6 .any (Rows.clientNobodySpec.pre6 enc Tryz.prog Tryz.f6 Rows.clientNobodyRow.domain false) (Rows.clientNobodySpec.post enc Tryz.prog Tryz.f6 false true false false) := by
  refine returnsInHanded_of_change (C := Tryz.checked) Tryz.own started (by kernel_rfl) Tryz.func6
    (ChangeSpec.witness6 (enc := enc) (C := Tryz.checked) false ⟨#[], #[.int .i64 0, .int .i64 0, .agg #[.int .i64 0, .int .i64 0, .int .i64 0, .int .i64 0, .int .i64 0, .int .i64 0, .int .u32 0, .int .u32 0, .int .u32 0, .int .u64 0, .int .u64 0, .int .u64 0, .int .u64 0]], []⟩ 8 (by kernel_rfl) (by kernel_rfl) (by kernel_rfl) (by kernel_rfl)) ?_
  intro W base args ds gs before hval0 hW hcnd _
  have hval : ∀ (j : Nat) t v, Tryz.f6.params[j]? = some t → args[j]? = some v → Value.okWide Tryz.prog W .any base t v := hval0
  have hW' := hW
  obtain ⟨p, q, hA0, hV, rfl, hfz, hnd⟩ := hW
  have hA : DataW.TrodAll enc Tryz.prog W 0 (fun _ => true) true Tryz.f6.params.toList args.toList ds p := hA0
  rw [Tryz.params6] at hA hval
  obtain ⟨v0, v1, v2, d0, d1, d2, p0, p1, p2, rfl, rfl, rfl, h0, h1, h2⟩ := trodAll_three hA
  obtain ⟨rfl, rfl⟩ := trodVars_none hV
  obtain ⟨s, rfl, rfl, rfl, ws⟩ := open_int Tryz.underlying3 (hval 0 3 v0 rfl rfl) h0
  obtain ⟨r, rfl, rfl, rfl, wr⟩ := open_int Tryz.underlying3 (hval 1 3 v1 rfl rfl) h1
  simp only [List.append_nil, List.nil_append] at hW'
  have hlt : ∀ x ∈ p2, x.block < W.heap.size := fun x hx => by simpa using hW'.lt x (by simpa using hx)
  obtain ⟨a0, a1, a2, a3, a4, a5, a6, a7, a8, a9, b0, b1, b2, rfl⟩ := open_ntp (hval 2 33 v2 rfl rfl) h2
  have hc := law_run (args' := [.int .i64 s, .int .i64 r, .agg #[.int .i64 a0, .int .i64 a1, .int .i64 a2, .int .i64 a3, .int .i64 a4, .int .i64 a5, .int .u32 a6, .int .u32 a7, .int .u32 a8, .int .u64 a9, .int .u64 b0, .int .u64 b1, .int .u64 b2]]) ck_ok (nobody_run s r a0 a1 a2 a3 a4 a5 a6 a7 a8 a9 b0 b1 b2) HWf.zero (fun v hv => by
    simp only [List.mem_cons, List.not_mem_nil, or_false] at hv
    rcases hv with rfl | rfl | rfl
    · exact Sc.flat _ rfl
    · exact Sc.flat _ rfl
    · exact Sc.of_flat rfl) (rel_heap0 (w := W)) (LRel.cons (.flat rfl) (LRel.cons (.flat rfl) (LRel.cons (.flat rfl) LRel.nil)))
  refine hc.mono fun e W' ⟨he, bel⟩ => ?_
  subst he
  refine ⟨_, rfl, [.lit (.int .i64 s), .lit (.int .i64 r), d2], [], p2, [], p2, [], by simpa using hW', ?_, ?_, rfl, bel.frame _, fun h => by cases h⟩
  · exact trodAll_mk1 (shut_bool Tryz.underlying4 _)
  · have := trodAll_mk3 (shut_int (w := W') (base := 0) (spare := fun b => decide (b < W.heap.size)) (held := true) (enc := enc) Tryz.underlying3 ws) (shut_int (w := W') (base := 0) (spare := fun b => decide (b < W.heap.size)) (held := true) (enc := enc) Tryz.underlying3 wr) (Below.trod Tryz.laidOut (by kernel_rfl) (of_decide_eq_true (by kernel_rfl)) h2 bel hlt)
    simp only [List.append_nil, List.nil_append] at this
    exact this
theorem clientNobody_holds : Rows.ClientNobodySaid :=
  OpenClaim.holds_of_wide 6 Tryz.f6 rfl rfl rfl rfl rfl rfl rfl ⟨rfl, rfl, rfl, rfl, rfl⟩ rfl rfl rfl rfl rfl (by kernel_rfl) Tryz.func6 (by kernel_rfl)
    (of_decide_eq_true (by kernel_rfl)) (by unfold Func.isWrapper; first | (rw [if_pos (by decide +kernel)]; kernel_rfl) | (rw [if_neg (by decide +kernel)]; exact ⟨rfl, rfl⟩))
    (fun os started H enc _ => clientNobody_lifted os started H enc)
#print axioms clientNobody_holds
end Go.Proofs.YtlnjhllfacmkoaaGreat
