/- The regions of open order of the program of the seat: the pairs of operations that are looked at. -/
import Derived.Test.YtlnjhllfacmkoaaGreatAm31
import Derived.Test.YtlnjhllfacmkoaaGreatProg
import Derived.KernelRfl
set_option maxRecDepth 100000
namespace Go.Proofs.YtlnjhllfacmkoaaGreat
open Go.Am

noncomputable def ClH : FuncId → Draws := fun f => match f with
  | 8 => fun r => match r with | 4 => some [(0, 4), (0, 6)] | 7 => some [(4, 5), (5, 7), (4, 8), (5, 10), (8, 10), (5, 12), (8, 12), (5, 14), (8, 14)] | _ => none
  | 12 => fun r => match r with | 4 => some [] | _ => none
  | 14 => fun r => match r with | 7 => some [] | _ => none
  | 17 => fun r => match r with | 10 => some [(2, 6), (6, 7), (6, 9), (6, 11)] | _ => none
  | 22 => fun r => match r with | 9 => some [(3, 7)] | 16 => some [] | _ => none
  | 24 => fun r => match r with | 11 => some [(1, 6), (1, 15), (7, 15)] | 12 => some [(3, 10), (10, 15)] | _ => none
  | 35 => fun r => match r with | 5 => some [(3, 6)] | 6 => some [] | _ => none
  | 37 => fun r => match r with | 1 => some [] | 4 => some [(13, 15), (14, 15)] | _ => none
  | 38 => fun r => match r with | 1 => some [] | 3 => some [] | 6 => some [(3, 6)] | _ => none
  | 39 => fun r => match r with | 6 => some [] | _ => none
  | 40 => fun r => match r with | 12 => some [(1, 7)] | _ => none
  | 41 => fun r => match r with | 2 => some [(0, 7)] | _ => none
  | 51 => fun r => match r with | 2 => some [] | 3 => some [] | _ => none
  | 54 => fun r => match r with | 8 => some [] | 11 => some [] | _ => none
  | 57 => fun r => match r with | 8 => some [] | _ => none
  | 61 => fun r => match r with | 6 => some [] | 8 => some [] | _ => none
  | 65 => fun r => match r with | 1 => some [] | _ => none
  | 66 => fun r => match r with | 11 => some [(1, 32), (3, 32), (6, 32), (8, 32), (14, 32), (16, 32), (19, 32), (21, 32), (32, 35)] | _ => none
  | 67 => fun r => match r with | 6 => some [(7, 9)] | 9 => some [] | 11 => some [] | _ => none
  | 68 => fun r => match r with | 5 => some [(2, 4)] | 6 => some [(2, 4), (2, 7), (2, 9)] | _ => none
  | 71 => fun r => match r with | 1 => some [] | _ => none
  | 72 => fun r => match r with | 3 => some [(1, 9), (6, 9), (9, 11), (1, 14)] | _ => none
  | 74 => fun r => match r with | 17 => some [] | _ => none
  | 76 => fun r => match r with | 7 => some [(0, 2), (0, 3)] | _ => none
  | 77 => fun r => match r with | 7 => some [] | 8 => some [] | _ => none
  | 80 => fun r => match r with | 10 => some [(1, 3)] | _ => none
  | 87 => fun r => match r with | 1 => some [] | _ => none
  | 89 => fun r => match r with | 5 => some [(1, 7)] | _ => none
  | 107 => fun r => match r with | 4 => some [(2, 5), (2, 8)] | _ => none
  | 116 => fun r => match r with | 5 => some [] | _ => none
  | 117 => fun r => match r with | 5 => some [] | _ => none
  | 124 => fun r => match r with | 1 => some [] | 5 => some [] | _ => none
  | 125 => fun r => match r with | 3 => some [] | _ => none
  | 127 => fun r => match r with | 1 => some [(4, 6), (4, 8)] | _ => none
  | 136 => fun r => match r with | 14 => some [] | 15 => some [] | _ => none
  | 139 => fun r => match r with | 3 => some [] | _ => none
  | 142 => fun r => match r with | 1 => some [(4, 6), (4, 8), (4, 11), (9, 11), (4, 13), (9, 13)] | _ => none
  | 144 => fun r => match r with | 6 => some [] | _ => none
  | 148 => fun r => match r with | 6 => some [(1, 13), (5, 13)] | _ => none
  | 150 => fun r => match r with | 17 => some [] | _ => none
  | 162 => fun r => match r with | 17 => some [] | _ => none
  | 164 => fun r => match r with | 4 => some [] | 6 => some [] | _ => none
  | 165 => fun r => match r with | 10 => some [] | _ => none
  | 166 => fun r => match r with | 10 => some [] | _ => none
  | 168 => fun r => match r with | 3 => some [] | _ => none
  | 169 => fun r => match r with | 5 => some [] | 11 => some [] | 16 => some [] | 17 => some [] | 22 => some [] | 23 => some [] | _ => none
  | 170 => fun r => match r with | 1 => some [] | 3 => some [] | 5 => some [] | 8 => some [] | _ => none
  | 171 => fun r => match r with | 1 => some [] | 3 => some [] | 5 => some [] | 8 => some [] | 10 => some [] | 13 => some [] | 15 => some [] | 18 => some [] | 21 => some [] | _ => none
  | 176 => fun r => match r with | 17 => some [] | _ => none
  | 177 => fun r => match r with | 4 => some [] | 6 => some [] | _ => none
  | 178 => fun r => match r with | 10 => some [] | _ => none
  | 179 => fun r => match r with | 10 => some [] | _ => none
  | 181 => fun r => match r with | 3 => some [] | _ => none
  | 182 => fun r => match r with | 5 => some [] | 11 => some [] | 16 => some [] | 17 => some [] | 22 => some [] | 23 => some [] | _ => none
  | 183 => fun r => match r with | 1 => some [] | 3 => some [] | 5 => some [] | 8 => some [] | _ => none
  | 184 => fun r => match r with | 1 => some [] | 3 => some [] | 5 => some [] | 8 => some [] | 10 => some [] | 13 => some [] | 15 => some [] | 18 => some [] | 21 => some [] | _ => none
  | 185 => fun r => match r with | 3 => some [] | 5 => some [] | 6 => some [] | _ => none
  | 187 => fun r => match r with | 1 => some [] | 2 => some [] | 3 => some [] | _ => none
  | 191 => fun r => match r with | 4 => some [] | 6 => some [] | _ => none
  | 192 => fun r => match r with | 10 => some [] | _ => none
  | 193 => fun r => match r with | 10 => some [] | _ => none
  | 195 => fun r => match r with | 3 => some [] | _ => none
  | 196 => fun r => match r with | 5 => some [] | 11 => some [] | 16 => some [] | 17 => some [] | 22 => some [] | 23 => some [] | _ => none
  | 197 => fun r => match r with | 1 => some [] | 3 => some [] | 5 => some [] | 8 => some [] | _ => none
  | 198 => fun r => match r with | 1 => some [] | 3 => some [] | 5 => some [] | 8 => some [] | 10 => some [] | 13 => some [] | 15 => some [] | 18 => some [] | 21 => some [] | _ => none
  | 199 => fun r => match r with | 3 => some [] | 5 => some [] | 6 => some [] | _ => none
  | 202 => fun r => match r with | 1 => some [] | _ => none
  | 203 => fun r => match r with | 3 => some [] | 5 => some [] | 6 => some [] | _ => none
  | 206 => fun r => match r with | 1 => some [] | _ => none
  | 207 => fun r => match r with | 1 => some [] | _ => none
  | _ => fun _ => none
theorem ck_ok : okProg Tryz.prog ClH = true := by kernel_rfl
end Go.Proofs.YtlnjhllfacmkoaaGreat
