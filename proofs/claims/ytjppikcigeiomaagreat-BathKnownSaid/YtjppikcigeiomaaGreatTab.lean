import Derived.Test.YtjppikcigeiomaaGreatVm21
import Derived.Test.YtjppikcigeiomaaGreatProg
set_option linter.unusedVariables false
set_option linter.unusedSimpArgs false
namespace Go.Vm

/-- The types of the program: made by program. -/
def tt (t : Nat) : Row := if t < 229 then (if t < 114 then (if t < 57 then (if t < 28 then (if t < 14 then (if t < 7 then (if t < 3 then (if t < 1 then ({}) else
  (if t < 2 then ({ kind := 8, size := 1, bytes := 8, zero := [.nilfn] }) else
  ({ kind := 1, ik := .i64, size := 1, bytes := 8, zero := [.int .i64 0] }))) else
  (if t < 5 then (if t < 4 then ({ kind := 1, ik := .i64, size := 1, bytes := 8, zero := [.int .i64 0] }) else
  ({ kind := 2, size := 1, bytes := 1, zero := [.bool false] })) else
  (if t < 6 then ({ kind := 1, ik := .u8, size := 1, bytes := 1, zero := [.int .u8 0] }) else
  ({ kind := 1, ik := .u8, size := 1, bytes := 1, zero := [.int .u8 0] })))) else
  (if t < 10 then (if t < 8 then ({ kind := 5, agg := true, flds := [(0, 1, false), (1, 1, false), (2, 1, false), (3, 1, false)], size := 4, bytes := 24, zero := [.int .i64 0, .int .i64 0, .bool false, .int .u8 0] }) else
  (if t < 9 then ({ kind := 5, agg := true, flds := [(0, 1, false), (1, 1, false), (2, 1, false), (3, 1, false)], size := 4, bytes := 24, zero := [.int .i64 0, .int .i64 0, .bool false, .int .u8 0] }) else
  ({}))) else
  (if t < 12 then (if t < 11 then ({}) else
  ({})) else
  (if t < 13 then ({ kind := 1, ik := .u64, size := 1, bytes := 8, zero := [.int .u64 0] }) else
  ({ kind := 5, agg := true, flds := [(0, 1, false), (1, 1, false)], size := 2, bytes := 24, zero := [.any, .int .u64 0] }))))) else
  (if t < 21 then (if t < 17 then (if t < 15 then ({ kind := 5, agg := true, flds := [(0, 1, false), (1, 1, false)], size := 2, bytes := 24, zero := [.any, .int .u64 0] }) else
  (if t < 16 then ({ kind := 7, size := 1, bytes := 8, zero := [.nilp] }) else
  ({ kind := 7, size := 1, bytes := 8, zero := [.nilp] }))) else
  (if t < 19 then (if t < 18 then ({ kind := 7, size := 1, bytes := 8, zero := [.nilp] }) else
  ({ kind := 5, agg := true, flds := [(0, 1, false)], size := 1, bytes := 8, zero := [.nilp] })) else
  (if t < 20 then ({ kind := 5, agg := true, flds := [(0, 1, false)], size := 1, bytes := 8, zero := [.nilp] }) else
  ({})))) else
  (if t < 24 then (if t < 22 then ({ kind := 1, ik := .i32, size := 1, bytes := 4, zero := [.int .i32 0] }) else
  (if t < 23 then ({ kind := 3, elem := 3, size := 1, bytes := 24, zero := [.sl0] }) else
  ({ kind := 5, agg := true, flds := [(0, 1, false), (1, 1, false)], size := 2, bytes := 16, zero := [.int .i64 0, .int .i64 0] }))) else
  (if t < 26 then (if t < 25 then ({ kind := 5, agg := true, flds := [(0, 1, false), (1, 1, false)], size := 2, bytes := 16, zero := [.int .i64 0, .int .i64 0] }) else
  ({ kind := 3, elem := 24, size := 1, bytes := 24, zero := [.sl0] })) else
  (if t < 27 then ({ kind := 3, elem := 93, size := 1, bytes := 24, zero := [.sl0] }) else
  ({ kind := 5, agg := true, flds := [(0, 1, false), (1, 1, false), (2, 1, false), (3, 1, false), (4, 1, false), (5, 1, false), (6, 1, false), (7, 2, true), (9, 1, false), (10, 1, false)], size := 11, bytes := 152, zero := [.int .i64 0, .int .i64 0, .int .i64 0, .int .i64 0, .int .i64 0, .sl0, .sl0, .int .i64 0, .int .i64 0, .sl0, .sl0] })))))) else
  (if t < 42 then (if t < 35 then (if t < 31 then (if t < 29 then ({ kind := 5, agg := true, flds := [(0, 1, false), (1, 1, false), (2, 1, false), (3, 1, false), (4, 1, false), (5, 1, false), (6, 1, false), (7, 2, true), (9, 1, false), (10, 1, false)], size := 11, bytes := 152, zero := [.int .i64 0, .int .i64 0, .int .i64 0, .int .i64 0, .int .i64 0, .sl0, .sl0, .int .i64 0, .int .i64 0, .sl0, .sl0] }) else
  (if t < 30 then ({ kind := 3, elem := 89, size := 1, bytes := 24, zero := [.sl0] }) else
  ({ kind := 5, agg := true, flds := [(0, 11, true), (11, 1, false), (12, 1, false), (13, 1, false)], size := 14, bytes := 192, zero := [.int .i64 0, .int .i64 0, .int .i64 0, .int .i64 0, .int .i64 0, .sl0, .sl0, .int .i64 0, .int .i64 0, .sl0, .sl0, .int .i64 0, .int .i64 0, .sl0] }))) else
  (if t < 33 then (if t < 32 then ({ kind := 5, agg := true, flds := [(0, 11, true), (11, 1, false), (12, 1, false), (13, 1, false)], size := 14, bytes := 192, zero := [.int .i64 0, .int .i64 0, .int .i64 0, .int .i64 0, .int .i64 0, .sl0, .sl0, .int .i64 0, .int .i64 0, .sl0, .sl0, .int .i64 0, .int .i64 0, .sl0] }) else
  ({ kind := 8, size := 1, bytes := 8, zero := [.nilfn] })) else
  (if t < 34 then ({ kind := 8, size := 1, bytes := 8, zero := [.nilfn] }) else
  ({ kind := 1, ik := .i64, size := 1, bytes := 8, zero := [.int .i64 0] })))) else
  (if t < 38 then (if t < 36 then ({}) else
  (if t < 37 then ({ kind := 8, size := 1, bytes := 8, zero := [.nilfn] }) else
  ({ kind := 5, agg := true, flds := [(0, 1, false), (1, 1, false)], size := 2, bytes := 16, zero := [.int .i64 0, .int .i64 0], ints := true }))) else
  (if t < 40 then (if t < 39 then ({ kind := 3, elem := 37, size := 1, bytes := 24, zero := [.sl0] }) else
  ({ kind := 3, elem := 148, size := 1, bytes := 24, zero := [.sl0] })) else
  (if t < 41 then ({ kind := 5, agg := true, flds := [(0, 1, false), (1, 1, false), (2, 1, false), (3, 1, false), (4, 1, false), (5, 1, false), (6, 1, false), (7, 2, true), (9, 1, false), (10, 1, false)], size := 11, bytes := 152, zero := [.int .i64 0, .int .i64 0, .int .i64 0, .int .i64 0, .int .i64 0, .sl0, .sl0, .int .i64 0, .int .i64 0, .sl0, .sl0] }) else
  ({ kind := 5, agg := true, flds := [(0, 1, false), (1, 1, false), (2, 1, false), (3, 1, false), (4, 1, false), (5, 1, false), (6, 1, false), (7, 2, true), (9, 1, false), (10, 1, false)], size := 11, bytes := 152, zero := [.int .i64 0, .int .i64 0, .int .i64 0, .int .i64 0, .int .i64 0, .sl0, .sl0, .int .i64 0, .int .i64 0, .sl0, .sl0] }))))) else
  (if t < 49 then (if t < 45 then (if t < 43 then ({ kind := 3, elem := 119, size := 1, bytes := 24, zero := [.sl0] }) else
  (if t < 44 then ({ kind := 5, agg := true, flds := [(0, 11, true), (11, 1, false), (12, 1, false), (13, 1, false)], size := 14, bytes := 192, zero := [.int .i64 0, .int .i64 0, .int .i64 0, .int .i64 0, .int .i64 0, .sl0, .sl0, .int .i64 0, .int .i64 0, .sl0, .sl0, .int .i64 0, .int .i64 0, .sl0] }) else
  ({ kind := 5, agg := true, flds := [(0, 11, true), (11, 1, false), (12, 1, false), (13, 1, false)], size := 14, bytes := 192, zero := [.int .i64 0, .int .i64 0, .int .i64 0, .int .i64 0, .int .i64 0, .sl0, .sl0, .int .i64 0, .int .i64 0, .sl0, .sl0, .int .i64 0, .int .i64 0, .sl0] }))) else
  (if t < 47 then (if t < 46 then ({ kind := 8, size := 1, bytes := 8, zero := [.nilfn] }) else
  ({ kind := 8, size := 1, bytes := 8, zero := [.nilfn] })) else
  (if t < 48 then ({ kind := 8, size := 1, bytes := 8, zero := [.nilfn] }) else
  ({ kind := 8, size := 1, bytes := 8, zero := [.nilfn] })))) else
  (if t < 53 then (if t < 51 then (if t < 50 then ({ kind := 8, size := 1, bytes := 8, zero := [.nilfn] }) else
  ({ kind := 8, size := 1, bytes := 8, zero := [.nilfn] })) else
  (if t < 52 then ({ kind := 8, size := 1, bytes := 8, zero := [.nilfn] }) else
  ({ kind := 8, size := 1, bytes := 8, zero := [.nilfn] }))) else
  (if t < 55 then (if t < 54 then ({ kind := 8, size := 1, bytes := 8, zero := [.nilfn] }) else
  ({ kind := 8, size := 1, bytes := 8, zero := [.nilfn] })) else
  (if t < 56 then ({ kind := 3, elem := 22, size := 1, bytes := 24, zero := [.sl0] }) else
  ({ kind := 8, size := 1, bytes := 8, zero := [.nilfn] }))))))) else
  (if t < 85 then (if t < 71 then (if t < 64 then (if t < 60 then (if t < 58 then ({ kind := 3, elem := 100, size := 1, bytes := 24, zero := [.sl0] }) else
  (if t < 59 then ({ kind := 8, size := 1, bytes := 8, zero := [.nilfn] }) else
  ({ kind := 8, size := 1, bytes := 8, zero := [.nilfn] }))) else
  (if t < 62 then (if t < 61 then ({ kind := 8, size := 1, bytes := 8, zero := [.nilfn] }) else
  ({ kind := 8, size := 1, bytes := 8, zero := [.nilfn] })) else
  (if t < 63 then ({ kind := 8, size := 1, bytes := 8, zero := [.nilfn] }) else
  ({})))) else
  (if t < 67 then (if t < 65 then ({ kind := 8, size := 1, bytes := 8, zero := [.nilfn] }) else
  (if t < 66 then ({}) else
  ({ kind := 8, size := 1, bytes := 8, zero := [.nilfn] }))) else
  (if t < 69 then (if t < 68 then ({ kind := 8, size := 1, bytes := 8, zero := [.nilfn] }) else
  ({ kind := 8, size := 1, bytes := 8, zero := [.nilfn] })) else
  (if t < 70 then ({ kind := 8, size := 1, bytes := 8, zero := [.nilfn] }) else
  ({ kind := 8, size := 1, bytes := 8, zero := [.nilfn] }))))) else
  (if t < 78 then (if t < 74 then (if t < 72 then ({ kind := 8, size := 1, bytes := 8, zero := [.nilfn] }) else
  (if t < 73 then ({ kind := 8, size := 1, bytes := 8, zero := [.nilfn] }) else
  ({ kind := 8, size := 1, bytes := 8, zero := [.nilfn] }))) else
  (if t < 76 then (if t < 75 then ({ kind := 1, ik := .u64, size := 1, bytes := 8, zero := [.int .u64 0] }) else
  ({ kind := 8, size := 1, bytes := 8, zero := [.nilfn] })) else
  (if t < 77 then ({ kind := 8, size := 1, bytes := 8, zero := [.nilfn] }) else
  ({ kind := 1, ik := .u16, size := 1, bytes := 2, zero := [.int .u16 0] })))) else
  (if t < 81 then (if t < 79 then ({ kind := 8, size := 1, bytes := 8, zero := [.nilfn] }) else
  (if t < 80 then ({ kind := 8, size := 1, bytes := 8, zero := [.nilfn] }) else
  ({ kind := 8, size := 1, bytes := 8, zero := [.nilfn] }))) else
  (if t < 83 then (if t < 82 then ({ kind := 8, size := 1, bytes := 8, zero := [.nilfn] }) else
  ({ kind := 8, size := 1, bytes := 8, zero := [.nilfn] })) else
  (if t < 84 then ({ kind := 8, size := 1, bytes := 8, zero := [.nilfn] }) else
  ({ kind := 8, size := 1, bytes := 8, zero := [.nilfn] })))))) else
  (if t < 99 then (if t < 92 then (if t < 88 then (if t < 86 then ({ kind := 8, size := 1, bytes := 8, zero := [.nilfn] }) else
  (if t < 87 then ({ kind := 3, elem := 77, size := 1, bytes := 24, zero := [.sl0] }) else
  ({ kind := 8, size := 1, bytes := 8, zero := [.nilfn] }))) else
  (if t < 90 then (if t < 89 then ({ kind := 5, agg := true, flds := [(0, 1, false), (1, 1, false)], size := 2, bytes := 16, zero := [.int .i64 0, .int .i64 0] }) else
  ({ kind := 5, agg := true, flds := [(0, 1, false), (1, 1, false)], size := 2, bytes := 16, zero := [.int .i64 0, .int .i64 0] })) else
  (if t < 91 then ({ kind := 8, size := 1, bytes := 8, zero := [.nilfn] }) else
  ({ kind := 7, size := 1, bytes := 8, zero := [.nilp] })))) else
  (if t < 95 then (if t < 93 then ({ kind := 5, agg := true, flds := [(0, 1, false), (1, 2, true)], size := 3, bytes := 24, zero := [.int .i64 0, .int .i64 0, .int .i64 0] }) else
  (if t < 94 then ({ kind := 5, agg := true, flds := [(0, 1, false), (1, 2, true)], size := 3, bytes := 24, zero := [.int .i64 0, .int .i64 0, .int .i64 0] }) else
  ({ kind := 8, size := 1, bytes := 8, zero := [.nilfn] }))) else
  (if t < 97 then (if t < 96 then ({ kind := 8, size := 1, bytes := 8, zero := [.nilfn] }) else
  ({ kind := 8, size := 1, bytes := 8, zero := [.nilfn] })) else
  (if t < 98 then ({ kind := 8, size := 1, bytes := 8, zero := [.nilfn] }) else
  ({ kind := 8, size := 1, bytes := 8, zero := [.nilfn] }))))) else
  (if t < 106 then (if t < 102 then (if t < 100 then ({ kind := 5, agg := true, flds := [(0, 1, false), (1, 1, false)], size := 2, bytes := 32, zero := [.int .i64 0, .sl0] }) else
  (if t < 101 then ({ kind := 5, agg := true, flds := [(0, 1, false), (1, 1, false)], size := 2, bytes := 32, zero := [.int .i64 0, .sl0] }) else
  ({ kind := 8, size := 1, bytes := 8, zero := [.nilfn] }))) else
  (if t < 104 then (if t < 103 then ({}) else
  ({ kind := 8, size := 1, bytes := 8, zero := [.nilfn] })) else
  (if t < 105 then ({ kind := 5, agg := true, flds := [(0, 1, false), (1, 1, false)], size := 2, bytes := 32, zero := [.int .i64 0, .sl0] }) else
  ({ kind := 8, size := 1, bytes := 8, zero := [.nilfn] })))) else
  (if t < 110 then (if t < 108 then (if t < 107 then ({ kind := 8, size := 1, bytes := 8, zero := [.nilfn] }) else
  ({ kind := 8, size := 1, bytes := 8, zero := [.nilfn] })) else
  (if t < 109 then ({ kind := 8, size := 1, bytes := 8, zero := [.nilfn] }) else
  ({ kind := 8, size := 1, bytes := 8, zero := [.nilfn] }))) else
  (if t < 112 then (if t < 111 then ({ kind := 8, size := 1, bytes := 8, zero := [.nilfn] }) else
  ({ kind := 8, size := 1, bytes := 8, zero := [.nilfn] })) else
  (if t < 113 then ({ kind := 8, size := 1, bytes := 8, zero := [.nilfn] }) else
  ({ kind := 7, size := 1, bytes := 8, zero := [.nilp] })))))))) else
  (if t < 171 then (if t < 142 then (if t < 128 then (if t < 121 then (if t < 117 then (if t < 115 then ({ kind := 4, agg := true, len := 5, elem := 3, size := 5, bytes := 40, zero := [.int .i64 0, .int .i64 0, .int .i64 0, .int .i64 0, .int .i64 0] }) else
  (if t < 116 then ({ kind := 4, agg := true, len := 5, elem := 3, size := 5, bytes := 40, zero := [.int .i64 0, .int .i64 0, .int .i64 0, .int .i64 0, .int .i64 0], ints := true }) else
  ({}))) else
  (if t < 119 then (if t < 118 then ({ kind := 8, size := 1, bytes := 8, zero := [.nilfn] }) else
  ({ kind := 8, size := 1, bytes := 8, zero := [.nilfn] })) else
  (if t < 120 then ({ kind := 5, agg := true, flds := [(0, 1, false), (1, 1, false)], size := 2, bytes := 16, zero := [.int .i64 0, .int .i64 0] }) else
  ({})))) else
  (if t < 124 then (if t < 122 then ({ kind := 8, size := 1, bytes := 8, zero := [.nilfn] }) else
  (if t < 123 then ({ kind := 8, size := 1, bytes := 8, zero := [.nilfn] }) else
  ({ kind := 8, size := 1, bytes := 8, zero := [.nilfn] }))) else
  (if t < 126 then (if t < 125 then ({}) else
  ({ kind := 8, size := 1, bytes := 8, zero := [.nilfn] })) else
  (if t < 127 then ({ kind := 8, size := 1, bytes := 8, zero := [.nilfn] }) else
  ({ kind := 8, size := 1, bytes := 8, zero := [.nilfn] }))))) else
  (if t < 135 then (if t < 131 then (if t < 129 then ({ kind := 8, size := 1, bytes := 8, zero := [.nilfn] }) else
  (if t < 130 then ({ kind := 8, size := 1, bytes := 8, zero := [.nilfn] }) else
  ({ kind := 8, size := 1, bytes := 8, zero := [.nilfn] }))) else
  (if t < 133 then (if t < 132 then ({ kind := 5, agg := true, flds := [(0, 1, false)], size := 1, bytes := 8, zero := [.nilfn] }) else
  ({ kind := 5, agg := true, flds := [(0, 1, false)], size := 1, bytes := 8, zero := [.nilfn] })) else
  (if t < 134 then ({ kind := 8, size := 1, bytes := 8, zero := [.nilfn] }) else
  ({ kind := 8, size := 1, bytes := 8, zero := [.nilfn] })))) else
  (if t < 138 then (if t < 136 then ({ kind := 8, size := 1, bytes := 8, zero := [.nilfn] }) else
  (if t < 137 then ({ kind := 8, size := 1, bytes := 8, zero := [.nilfn] }) else
  ({ kind := 8, size := 1, bytes := 8, zero := [.nilfn] }))) else
  (if t < 140 then (if t < 139 then ({ kind := 8, size := 1, bytes := 8, zero := [.nilfn] }) else
  ({ kind := 8, size := 1, bytes := 8, zero := [.nilfn] })) else
  (if t < 141 then ({ kind := 8, size := 1, bytes := 8, zero := [.nilfn] }) else
  ({ kind := 8, size := 1, bytes := 8, zero := [.nilfn] })))))) else
  (if t < 156 then (if t < 149 then (if t < 145 then (if t < 143 then ({ kind := 8, size := 1, bytes := 8, zero := [.nilfn] }) else
  (if t < 144 then ({ kind := 7, size := 1, bytes := 8, zero := [.nilp] }) else
  ({}))) else
  (if t < 147 then (if t < 146 then ({ kind := 8, size := 1, bytes := 8, zero := [.nilfn] }) else
  ({ kind := 8, size := 1, bytes := 8, zero := [.nilfn] })) else
  (if t < 148 then ({ kind := 5, agg := true, flds := [(0, 1, false), (1, 2, true)], size := 3, bytes := 24, zero := [.int .i64 0, .int .i64 0, .int .i64 0] }) else
  ({ kind := 5, agg := true, flds := [(0, 1, false), (1, 2, true)], size := 3, bytes := 24, zero := [.int .i64 0, .int .i64 0, .int .i64 0] })))) else
  (if t < 152 then (if t < 150 then ({ kind := 8, size := 1, bytes := 8, zero := [.nilfn] }) else
  (if t < 151 then ({ kind := 8, size := 1, bytes := 8, zero := [.nilfn] }) else
  ({ kind := 4, agg := true, len := 5, elem := 3, size := 5, bytes := 40, zero := [.int .i64 0, .int .i64 0, .int .i64 0, .int .i64 0, .int .i64 0] }))) else
  (if t < 154 then (if t < 153 then ({ kind := 5, agg := true, flds := [(0, 1, false), (1, 5, true)], size := 6, bytes := 48, zero := [.int .i64 0, .int .i64 0, .int .i64 0, .int .i64 0, .int .i64 0, .int .i64 0] }) else
  ({ kind := 5, agg := true, flds := [(0, 1, false), (1, 5, true)], size := 6, bytes := 48, zero := [.int .i64 0, .int .i64 0, .int .i64 0, .int .i64 0, .int .i64 0, .int .i64 0], ints := true })) else
  (if t < 155 then ({}) else
  ({ kind := 8, size := 1, bytes := 8, zero := [.nilfn] }))))) else
  (if t < 163 then (if t < 159 then (if t < 157 then ({ kind := 3, elem := 4, size := 1, bytes := 24, zero := [.sl0] }) else
  (if t < 158 then ({ kind := 5, agg := true, flds := [(0, 1, false), (1, 1, false), (2, 1, false)], size := 3, bytes := 72, zero := [.sl0, .sl0, .sl0] }) else
  ({ kind := 5, agg := true, flds := [(0, 1, false), (1, 1, false), (2, 1, false)], size := 3, bytes := 72, zero := [.sl0, .sl0, .sl0] }))) else
  (if t < 161 then (if t < 160 then ({ kind := 8, size := 1, bytes := 8, zero := [.nilfn] }) else
  ({ kind := 8, size := 1, bytes := 8, zero := [.nilfn] })) else
  (if t < 162 then ({ kind := 8, size := 1, bytes := 8, zero := [.nilfn] }) else
  ({ kind := 8, size := 1, bytes := 8, zero := [.nilfn] })))) else
  (if t < 167 then (if t < 165 then (if t < 164 then ({ kind := 8, size := 1, bytes := 8, zero := [.nilfn] }) else
  ({ kind := 8, size := 1, bytes := 8, zero := [.nilfn] })) else
  (if t < 166 then ({ kind := 8, size := 1, bytes := 8, zero := [.nilfn] }) else
  ({ kind := 8, size := 1, bytes := 8, zero := [.nilfn] }))) else
  (if t < 169 then (if t < 168 then ({ kind := 8, size := 1, bytes := 8, zero := [.nilfn] }) else
  ({ kind := 8, size := 1, bytes := 8, zero := [.nilfn] })) else
  (if t < 170 then ({ kind := 5, agg := true, flds := [(0, 1, false)], size := 1, bytes := 8, zero := [.nilfn] }) else
  ({ kind := 5, agg := true, flds := [(0, 1, false)], size := 1, bytes := 8, zero := [.nilfn] }))))))) else
  (if t < 200 then (if t < 185 then (if t < 178 then (if t < 174 then (if t < 172 then ({ kind := 8, size := 1, bytes := 8, zero := [.nilfn] }) else
  (if t < 173 then ({ kind := 6, len := 115, elem := 3, size := 1, bytes := 8, zero := [.any] }) else
  ({}))) else
  (if t < 176 then (if t < 175 then ({ kind := 5, agg := true, flds := [(0, 14, true), (14, 1, false)], size := 15, bytes := 200, zero := [.int .i64 0, .int .i64 0, .int .i64 0, .int .i64 0, .int .i64 0, .sl0, .sl0, .int .i64 0, .int .i64 0, .sl0, .sl0, .int .i64 0, .int .i64 0, .sl0, .any] }) else
  ({ kind := 8, size := 1, bytes := 8, zero := [.nilfn] })) else
  (if t < 177 then ({ kind := 8, size := 1, bytes := 8, zero := [.nilfn] }) else
  ({ kind := 8, size := 1, bytes := 8, zero := [.nilfn] })))) else
  (if t < 181 then (if t < 179 then ({ kind := 8, size := 1, bytes := 8, zero := [.nilfn] }) else
  (if t < 180 then ({ kind := 8, size := 1, bytes := 8, zero := [.nilfn] }) else
  ({ kind := 8, size := 1, bytes := 8, zero := [.nilfn] }))) else
  (if t < 183 then (if t < 182 then ({ kind := 8, size := 1, bytes := 8, zero := [.nilfn] }) else
  ({ kind := 6, len := 203, elem := 4, size := 1, bytes := 8, zero := [.any] })) else
  (if t < 184 then ({ kind := 3, elem := 153, size := 1, bytes := 24, zero := [.sl0] }) else
  ({}))))) else
  (if t < 192 then (if t < 188 then (if t < 186 then ({ kind := 5, agg := true, flds := [(0, 11, true), (11, 1, false), (12, 1, false)], size := 13, bytes := 184, zero := [.int .i64 0, .int .i64 0, .int .i64 0, .int .i64 0, .int .i64 0, .sl0, .sl0, .int .i64 0, .int .i64 0, .sl0, .sl0, .sl0, .any] }) else
  (if t < 187 then ({ kind := 8, size := 1, bytes := 8, zero := [.nilfn] }) else
  ({ kind := 8, size := 1, bytes := 8, zero := [.nilfn] }))) else
  (if t < 190 then (if t < 189 then ({ kind := 8, size := 1, bytes := 8, zero := [.nilfn] }) else
  ({ kind := 8, size := 1, bytes := 8, zero := [.nilfn] })) else
  (if t < 191 then ({ kind := 8, size := 1, bytes := 8, zero := [.nilfn] }) else
  ({ kind := 8, size := 1, bytes := 8, zero := [.nilfn] })))) else
  (if t < 196 then (if t < 194 then (if t < 193 then ({}) else
  ({ kind := 8, size := 1, bytes := 8, zero := [.nilfn] })) else
  (if t < 195 then ({ kind := 8, size := 1, bytes := 8, zero := [.nilfn] }) else
  ({ kind := 8, size := 1, bytes := 8, zero := [.nilfn] }))) else
  (if t < 198 then (if t < 197 then ({ kind := 8, size := 1, bytes := 8, zero := [.nilfn] }) else
  ({ kind := 8, size := 1, bytes := 8, zero := [.nilfn] })) else
  (if t < 199 then ({ kind := 5, agg := true, flds := [(0, 1, false), (1, 1, false)], size := 2, bytes := 16, zero := [.int .i64 0, .int .i64 0] }) else
  ({ kind := 5, agg := true, flds := [(0, 1, false), (1, 1, false)], size := 2, bytes := 16, zero := [.int .i64 0, .int .i64 0], ints := true })))))) else
  (if t < 214 then (if t < 207 then (if t < 203 then (if t < 201 then ({ kind := 8, size := 1, bytes := 8, zero := [.nilfn] }) else
  (if t < 202 then ({ kind := 8, size := 1, bytes := 8, zero := [.nilfn] }) else
  ({ kind := 8, size := 1, bytes := 8, zero := [.nilfn] }))) else
  (if t < 205 then (if t < 204 then ({ kind := 4, agg := true, len := 5, elem := 3, size := 5, bytes := 40, zero := [.int .i64 0, .int .i64 0, .int .i64 0, .int .i64 0, .int .i64 0], ints := true }) else
  ({})) else
  (if t < 206 then ({ kind := 8, size := 1, bytes := 8, zero := [.nilfn] }) else
  ({ kind := 8, size := 1, bytes := 8, zero := [.nilfn] })))) else
  (if t < 210 then (if t < 208 then ({ kind := 8, size := 1, bytes := 8, zero := [.nilfn] }) else
  (if t < 209 then ({ kind := 8, size := 1, bytes := 8, zero := [.nilfn] }) else
  ({ kind := 8, size := 1, bytes := 8, zero := [.nilfn] }))) else
  (if t < 212 then (if t < 211 then ({ kind := 8, size := 1, bytes := 8, zero := [.nilfn] }) else
  ({ kind := 8, size := 1, bytes := 8, zero := [.nilfn] })) else
  (if t < 213 then ({ kind := 8, size := 1, bytes := 8, zero := [.nilfn] }) else
  ({ kind := 8, size := 1, bytes := 8, zero := [.nilfn] }))))) else
  (if t < 221 then (if t < 217 then (if t < 215 then ({ kind := 5, agg := true, flds := [(0, 1, false), (1, 1, false), (2, 1, false), (3, 1, false)], size := 4, bytes := 40, zero := [.nilp, .nilp, .nilp, .any] }) else
  (if t < 216 then ({ kind := 5, agg := true, flds := [(0, 1, false), (1, 1, false), (2, 1, false), (3, 1, false)], size := 4, bytes := 40, zero := [.nilp, .nilp, .nilp, .any] }) else
  ({ kind := 4, agg := true, len := 0, elem := 16, size := 0, bytes := 0, zero := [] }))) else
  (if t < 219 then (if t < 218 then ({ kind := 5, agg := true, flds := [(0, 0, true)], size := 0, bytes := 0, zero := [] }) else
  ({ kind := 5, agg := true, flds := [(0, 0, true)], size := 0, bytes := 0, zero := [] })) else
  (if t < 220 then ({ kind := 1, ik := .u32, size := 1, bytes := 4, zero := [.int .u32 0] }) else
  ({ kind := 1, ik := .u8, size := 1, bytes := 1, zero := [.int .u8 0] })))) else
  (if t < 225 then (if t < 223 then (if t < 222 then ({ kind := 1, ik := .u8, size := 1, bytes := 1, zero := [.int .u8 0] }) else
  ({ kind := 8, size := 1, bytes := 8, zero := [.nilfn] })) else
  (if t < 224 then ({ kind := 7, size := 1, bytes := 8, zero := [.nilp] }) else
  ({ kind := 1, ik := .i32, size := 1, bytes := 4, zero := [.int .i32 0] }))) else
  (if t < 227 then (if t < 226 then ({ kind := 1, ik := .i32, size := 1, bytes := 4, zero := [.int .i32 0] }) else
  ({ kind := 5, agg := true, flds := [(0, 1, false), (1, 1, false), (2, 1, false), (3, 1, false), (4, 1, false), (5, 1, false), (6, 1, false), (7, 1, false), (8, 1, false), (9, 1, false), (10, 1, false)], size := 11, bytes := 48, zero := [.int .u64 0, .int .u64 0, .int .u32 0, .int .u8 0, .int .u8 0, .int .u8 0, .int .u8 0, .nilfn, .nilp, .int .i32 0, .int .i32 0] })) else
  (if t < 228 then ({ kind := 5, agg := true, flds := [(0, 1, false), (1, 1, false), (2, 1, false), (3, 1, false), (4, 1, false), (5, 1, false), (6, 1, false), (7, 1, false), (8, 1, false), (9, 1, false), (10, 1, false)], size := 11, bytes := 48, zero := [.int .u64 0, .int .u64 0, .int .u32 0, .int .u8 0, .int .u8 0, .int .u8 0, .int .u8 0, .nilfn, .nilp, .int .i32 0, .int .i32 0] }) else
  ({}))))))))) else {}
def ttn : Nat := 229
theorem tt_out : ∀ t, 229 ≤ t → tt t = {} := by
  intro t ht
  unfold tt
  rw [if_neg (by omega)]
theorem tt_high : ∀ t, 229 ≤ t → (tt t).kind = 0 := fun t ht => by rw [tt_out t ht]
theorem tt_rows : (List.range 229).all (fun t => decide ((tt t).kind = 0) || rowB Go.Proofs.Tryz.prog tt t) = true := by kernel_rfl
theorem mixed : Go.Proofs.Tryz.prog.follows .mixedOrders = true := by kernel_rfl
end Go.Vm
