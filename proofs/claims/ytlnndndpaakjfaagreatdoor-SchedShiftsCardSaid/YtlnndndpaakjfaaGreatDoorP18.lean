/- Texts of a small semantics over the model and of specifications of functions, joined: Types. -/
import Derived.Test.YtlnndndpaakjfaaGreatDoorP16
import Derived.Test.YtlnndndpaakjfaaGreatDoorProg
import Derived.KernelRfl
set_option linter.unusedSimpArgs false
set_option linter.unusedVariables false
/- The types of this program, as the table has them. -/
namespace Go.LI.T
open Go Go.LI Go.Proofs

noncomputable def τ : Tab := tabOf Tryz.prog

theorem ok : TabOk Tryz.prog τ := tabOf_ok _

theorem t1 : τ 1 = some ⟨.other, 1, 8, [.nilFunc], []⟩ := by kernel_rfl
theorem t2 : τ 2 = some ⟨.int .i64, 1, 8, [.int .i64 0], []⟩ := by kernel_rfl
theorem t3 : τ 3 = some ⟨.int .i64, 1, 8, [.int .i64 0], []⟩ := by kernel_rfl
theorem t4 : τ 4 = some ⟨.bool, 1, 1, [.bool false], []⟩ := by kernel_rfl
theorem t5 : τ 5 = some ⟨.int .u8, 1, 1, [.int .u8 0], []⟩ := by kernel_rfl
theorem t6 : τ 6 = some ⟨.int .u8, 1, 1, [.int .u8 0], []⟩ := by kernel_rfl
theorem t7 : τ 7 = some ⟨.struct [(0, 1), (1, 1), (2, 1), (3, 1)], 4, 24, [.int .i64 0, .int .i64 0, .bool false, .int .u8 0], [2, 3, 4, 6]⟩ := by kernel_rfl
theorem t8 : τ 8 = some ⟨.struct [(0, 1), (1, 1), (2, 1), (3, 1)], 4, 24, [.int .i64 0, .int .i64 0, .bool false, .int .u8 0], [2, 3, 4, 6]⟩ := by kernel_rfl
theorem t9 : τ 9 = some ⟨.str, 1, 16, [.string .empty], []⟩ := by kernel_rfl
theorem t10 : τ 10 = some ⟨.str, 1, 16, [.string .empty], []⟩ := by kernel_rfl
theorem t11 : τ 11 = some ⟨.str, 1, 16, [.string .empty], []⟩ := by kernel_rfl
theorem t12 : τ 12 = some ⟨.int .u64, 1, 8, [.int .u64 0], []⟩ := by kernel_rfl
theorem t13 : τ 13 = some ⟨.struct [(0, 1), (1, 1)], 2, 24, [.string .empty, .int .u64 0], [9, 12]⟩ := by kernel_rfl
theorem t14 : τ 14 = some ⟨.struct [(0, 1), (1, 1)], 2, 24, [.string .empty, .int .u64 0], [9, 12]⟩ := by kernel_rfl
theorem t15 : τ 15 = some ⟨.other, 1, 8, [.pointer none], []⟩ := by kernel_rfl
theorem t16 : τ 16 = some ⟨.other, 1, 8, [.pointer none], []⟩ := by kernel_rfl
theorem t17 : τ 17 = some ⟨.other, 1, 8, [.pointer none], []⟩ := by kernel_rfl
theorem t18 : τ 18 = some ⟨.struct [(0, 1)], 1, 8, [.pointer none], [17]⟩ := by kernel_rfl
theorem t19 : τ 19 = some ⟨.struct [(0, 1)], 1, 8, [.pointer none], [17]⟩ := by kernel_rfl
theorem t20 : τ 20 = some ⟨.other, 1, 16, [.nilIface], []⟩ := by kernel_rfl
theorem t21 : τ 21 = some ⟨.int .i32, 1, 4, [.int .i32 0], []⟩ := by kernel_rfl
theorem t22 : τ 22 = some ⟨.slice 62, 1, 24, [.slice none 0 0], []⟩ := by kernel_rfl
theorem t23 : τ 23 = some ⟨.struct [(0, 1), (1, 1)], 2, 40, [.string .empty, .slice none 0 0], [9, 22]⟩ := by kernel_rfl
theorem t24 : τ 24 = some ⟨.struct [(0, 1), (1, 1)], 2, 40, [.string .empty, .slice none 0 0], [9, 22]⟩ := by kernel_rfl
theorem t25 : τ 25 = some ⟨.slice 53, 1, 24, [.slice none 0 0], []⟩ := by kernel_rfl
theorem t26 : τ 26 = some ⟨.other, 1, 8, [.nilFunc], []⟩ := by kernel_rfl
theorem t27 : τ 27 = some ⟨.int .i64, 1, 8, [.int .i64 0], []⟩ := by kernel_rfl
theorem t29 : τ 29 = some ⟨.other, 1, 8, [.nilFunc], []⟩ := by kernel_rfl
theorem t30 : τ 30 = some ⟨.other, 1, 8, [.nilFunc], []⟩ := by kernel_rfl
theorem t31 : τ 31 = some ⟨.other, 1, 8, [.nilFunc], []⟩ := by kernel_rfl
theorem t32 : τ 32 = some ⟨.other, 1, 8, [.nilFunc], []⟩ := by kernel_rfl
theorem t33 : τ 33 = some ⟨.slice 49, 1, 24, [.slice none 0 0], []⟩ := by kernel_rfl
theorem t34 : τ 34 = some ⟨.other, 1, 8, [.nilFunc], []⟩ := by kernel_rfl
theorem t36 : τ 36 = some ⟨.other, 1, 8, [.nilFunc], []⟩ := by kernel_rfl
theorem t37 : τ 37 = some ⟨.other, 1, 8, [.nilFunc], []⟩ := by kernel_rfl
theorem t38 : τ 38 = some ⟨.other, 1, 8, [.nilFunc], []⟩ := by kernel_rfl
theorem t39 : τ 39 = some ⟨.slice 25, 1, 24, [.slice none 0 0], []⟩ := by kernel_rfl
theorem t41 : τ 41 = some ⟨.other, 1, 8, [.nilFunc], []⟩ := by kernel_rfl
theorem t42 : τ 42 = some ⟨.other, 1, 8, [.nilFunc], []⟩ := by kernel_rfl
theorem t43 : τ 43 = some ⟨.other, 1, 8, [.nilFunc], []⟩ := by kernel_rfl
theorem t44 : τ 44 = some ⟨.other, 1, 8, [.nilFunc], []⟩ := by kernel_rfl
theorem t45 : τ 45 = some ⟨.other, 1, 8, [.nilFunc], []⟩ := by kernel_rfl
theorem t46 : τ 46 = some ⟨.slice 84, 1, 24, [.slice none 0 0], []⟩ := by kernel_rfl
theorem t47 : τ 47 = some ⟨.slice 2, 1, 24, [.slice none 0 0], []⟩ := by kernel_rfl
theorem t48 : τ 48 = some ⟨.struct [(0, 1), (1, 1), (2, 1), (3, 1), (4, 1), (5, 1)], 6, 96, [.bool false, .slice none 0 0, .slice none 0 0, .slice none 0 0, .int .i64 0, .int .i64 0], [4, 46, 47, 47, 3, 3]⟩ := by kernel_rfl
theorem t49 : τ 49 = some ⟨.struct [(0, 1), (1, 1), (2, 1), (3, 1), (4, 1), (5, 1)], 6, 96, [.bool false, .slice none 0 0, .slice none 0 0, .slice none 0 0, .int .i64 0, .int .i64 0], [4, 46, 47, 47, 3, 3]⟩ := by kernel_rfl
theorem t50 : τ 50 = some ⟨.other, 1, 8, [.nilFunc], []⟩ := by kernel_rfl
theorem t51 : τ 51 = some ⟨.other, 1, 8, [.nilFunc], []⟩ := by kernel_rfl
theorem t52 : τ 52 = some ⟨.struct [(0, 1), (1, 1), (2, 1)], 3, 40, [.bool false, .int .i64 0, .slice none 0 0], [4, 2, 47]⟩ := by kernel_rfl
theorem t53 : τ 53 = some ⟨.struct [(0, 1), (1, 1), (2, 1)], 3, 40, [.bool false, .int .i64 0, .slice none 0 0], [4, 2, 47]⟩ := by kernel_rfl
theorem t54 : τ 54 = some ⟨.other, 1, 8, [.nilFunc], []⟩ := by kernel_rfl
theorem t55 : τ 55 = some ⟨.other, 1, 8, [.nilFunc], []⟩ := by kernel_rfl
theorem t56 : τ 56 = some ⟨.other, 1, 8, [.nilFunc], []⟩ := by kernel_rfl
theorem t58 : τ 58 = some ⟨.other, 1, 8, [.nilFunc], []⟩ := by kernel_rfl
theorem t59 : τ 59 = some ⟨.other, 1, 8, [.nilFunc], []⟩ := by kernel_rfl
theorem t60 : τ 60 = some ⟨.slice 64, 1, 24, [.slice none 0 0], []⟩ := by kernel_rfl
theorem t61 : τ 61 = some ⟨.struct [(0, 1), (1, 1)], 2, 32, [.bool false, .slice none 0 0], [4, 60]⟩ := by kernel_rfl
theorem t62 : τ 62 = some ⟨.struct [(0, 1), (1, 1)], 2, 32, [.bool false, .slice none 0 0], [4, 60]⟩ := by kernel_rfl
theorem t63 : τ 63 = some ⟨.struct [(0, 1), (1, 3)], 4, 48, [.int .i64 0, .bool false, .int .i64 0, .slice none 0 0], [3, 53]⟩ := by kernel_rfl
theorem t64 : τ 64 = some ⟨.struct [(0, 1), (1, 3)], 4, 48, [.int .i64 0, .bool false, .int .i64 0, .slice none 0 0], [3, 53]⟩ := by kernel_rfl
theorem t65 : τ 65 = some ⟨.slice 3, 1, 24, [.slice none 0 0], []⟩ := by kernel_rfl
theorem t66 : τ 66 = some ⟨.other, 1, 8, [.nilFunc], []⟩ := by kernel_rfl
theorem t67 : τ 67 = some ⟨.other, 1, 8, [.nilFunc], []⟩ := by kernel_rfl
theorem t68 : τ 68 = some ⟨.other, 1, 8, [.nilFunc], []⟩ := by kernel_rfl
theorem t70 : τ 70 = some ⟨.other, 1, 8, [.nilFunc], []⟩ := by kernel_rfl
theorem t71 : τ 71 = some ⟨.other, 1, 8, [.nilFunc], []⟩ := by kernel_rfl
theorem t72 : τ 72 = some ⟨.other, 1, 8, [.nilFunc], []⟩ := by kernel_rfl
theorem t73 : τ 73 = some ⟨.other, 1, 8, [.nilFunc], []⟩ := by kernel_rfl
theorem t74 : τ 74 = some ⟨.other, 1, 8, [.nilFunc], []⟩ := by kernel_rfl
theorem t75 : τ 75 = some ⟨.other, 1, 8, [.nilFunc], []⟩ := by kernel_rfl
theorem t76 : τ 76 = some ⟨.other, 1, 8, [.nilFunc], []⟩ := by kernel_rfl
theorem t77 : τ 77 = some ⟨.other, 1, 8, [.nilFunc], []⟩ := by kernel_rfl
theorem t78 : τ 78 = some ⟨.other, 1, 8, [.nilFunc], []⟩ := by kernel_rfl
theorem t79 : τ 79 = some ⟨.other, 1, 8, [.nilFunc], []⟩ := by kernel_rfl
theorem t80 : τ 80 = some ⟨.other, 1, 8, [.nilFunc], []⟩ := by kernel_rfl
theorem t81 : τ 81 = some ⟨.other, 1, 8, [.nilFunc], []⟩ := by kernel_rfl
theorem t82 : τ 82 = some ⟨.other, 1, 8, [.nilFunc], []⟩ := by kernel_rfl
theorem t83 : τ 83 = some ⟨.struct [(0, 1), (1, 1)], 2, 16, [.int .i64 0, .int .i64 0], [2, 2]⟩ := by kernel_rfl
theorem t84 : τ 84 = some ⟨.struct [(0, 1), (1, 1)], 2, 16, [.int .i64 0, .int .i64 0], [2, 2]⟩ := by kernel_rfl
theorem t85 : τ 85 = some ⟨.other, 1, 8, [.nilFunc], []⟩ := by kernel_rfl
theorem t86 : τ 86 = some ⟨.other, 1, 8, [.nilFunc], []⟩ := by kernel_rfl
theorem t87 : τ 87 = some ⟨.other, 1, 8, [.nilFunc], []⟩ := by kernel_rfl
theorem t88 : τ 88 = some ⟨.other, 1, 8, [.nilFunc], []⟩ := by kernel_rfl
theorem t89 : τ 89 = some ⟨.other, 1, 8, [.nilFunc], []⟩ := by kernel_rfl
theorem t90 : τ 90 = some ⟨.slice 4, 1, 24, [.slice none 0 0], []⟩ := by kernel_rfl
theorem t91 : τ 91 = some ⟨.other, 1, 8, [.nilFunc], []⟩ := by kernel_rfl
theorem t92 : τ 92 = some ⟨.other, 1, 8, [.nilFunc], []⟩ := by kernel_rfl
theorem t93 : τ 93 = some ⟨.other, 1, 8, [.nilFunc], []⟩ := by kernel_rfl
theorem t94 : τ 94 = some ⟨.other, 1, 8, [.nilFunc], []⟩ := by kernel_rfl
theorem t95 : τ 95 = some ⟨.other, 1, 8, [.nilFunc], []⟩ := by kernel_rfl
theorem t97 : τ 97 = some ⟨.other, 1, 8, [.nilFunc], []⟩ := by kernel_rfl
theorem t98 : τ 98 = some ⟨.other, 1, 8, [.nilFunc], []⟩ := by kernel_rfl
theorem t100 : τ 100 = some ⟨.other, 1, 8, [.nilFunc], []⟩ := by kernel_rfl
theorem t101 : τ 101 = some ⟨.other, 1, 8, [.nilFunc], []⟩ := by kernel_rfl
theorem t102 : τ 102 = some ⟨.other, 1, 8, [.nilFunc], []⟩ := by kernel_rfl
theorem t103 : τ 103 = some ⟨.other, 1, 8, [.nilFunc], []⟩ := by kernel_rfl
theorem t104 : τ 104 = some ⟨.slice 47, 1, 24, [.slice none 0 0], []⟩ := by kernel_rfl
theorem t105 : τ 105 = some ⟨.other, 1, 8, [.nilFunc], []⟩ := by kernel_rfl
theorem t106 : τ 106 = some ⟨.other, 1, 8, [.nilFunc], []⟩ := by kernel_rfl
theorem t107 : τ 107 = some ⟨.other, 1, 8, [.nilFunc], []⟩ := by kernel_rfl
theorem t108 : τ 108 = some ⟨.other, 1, 8, [.nilFunc], []⟩ := by kernel_rfl
theorem t109 : τ 109 = some ⟨.other, 1, 8, [.nilFunc], []⟩ := by kernel_rfl
theorem t110 : τ 110 = some ⟨.other, 1, 8, [.nilFunc], []⟩ := by kernel_rfl
theorem t111 : τ 111 = some ⟨.other, 1, 8, [.nilFunc], []⟩ := by kernel_rfl
theorem t112 : τ 112 = some ⟨.other, 1, 8, [.nilFunc], []⟩ := by kernel_rfl
theorem t113 : τ 113 = some ⟨.other, 1, 8, [.nilFunc], []⟩ := by kernel_rfl
theorem t114 : τ 114 = some ⟨.other, 1, 8, [.nilFunc], []⟩ := by kernel_rfl
theorem t115 : τ 115 = some ⟨.other, 1, 8, [.nilFunc], []⟩ := by kernel_rfl
theorem t116 : τ 116 = some ⟨.other, 1, 8, [.nilFunc], []⟩ := by kernel_rfl
theorem t117 : τ 117 = some ⟨.other, 1, 8, [.nilFunc], []⟩ := by kernel_rfl
theorem t118 : τ 118 = some ⟨.other, 1, 8, [.nilFunc], []⟩ := by kernel_rfl
theorem t119 : τ 119 = some ⟨.other, 1, 8, [.nilFunc], []⟩ := by kernel_rfl
theorem t120 : τ 120 = some ⟨.other, 1, 8, [.nilFunc], []⟩ := by kernel_rfl
theorem t121 : τ 121 = some ⟨.other, 1, 8, [.nilFunc], []⟩ := by kernel_rfl
theorem t122 : τ 122 = some ⟨.struct [(0, 1), (1, 1)], 2, 32, [.int .i64 0, .slice none 0 0], [2, 47]⟩ := by kernel_rfl
theorem t123 : τ 123 = some ⟨.struct [(0, 1), (1, 1)], 2, 32, [.int .i64 0, .slice none 0 0], [2, 47]⟩ := by kernel_rfl
theorem t124 : τ 124 = some ⟨.other, 1, 8, [.nilFunc], []⟩ := by kernel_rfl
theorem t125 : τ 125 = some ⟨.other, 1, 8, [.nilFunc], []⟩ := by kernel_rfl
theorem t127 : τ 127 = some ⟨.other, 1, 8, [.nilFunc], []⟩ := by kernel_rfl
theorem t128 : τ 128 = some ⟨.other, 1, 8, [.nilFunc], []⟩ := by kernel_rfl
theorem t129 : τ 129 = some ⟨.other, 1, 8, [.nilFunc], []⟩ := by kernel_rfl
theorem t130 : τ 130 = some ⟨.other, 1, 8, [.pointer none], []⟩ := by kernel_rfl
theorem t131 : τ 131 = some ⟨.struct [(0, 2), (2, 1), (3, 1), (4, 1)], 5, 72, [.string .empty, .slice none 0 0, .slice none 0 0, .bool false, .bool false], [24, 33, 4, 4]⟩ := by kernel_rfl
theorem t132 : τ 132 = some ⟨.struct [(0, 2), (2, 1), (3, 1), (4, 1)], 5, 72, [.string .empty, .slice none 0 0, .slice none 0 0, .bool false, .bool false], [24, 33, 4, 4]⟩ := by kernel_rfl
theorem t133 : τ 133 = some ⟨.other, 1, 8, [.nilFunc], []⟩ := by kernel_rfl
theorem t134 : τ 134 = some ⟨.other, 1, 8, [.nilFunc], []⟩ := by kernel_rfl
theorem t135 : τ 135 = some ⟨.other, 1, 8, [.nilFunc], []⟩ := by kernel_rfl
theorem t136 : τ 136 = some ⟨.other, 1, 8, [.nilFunc], []⟩ := by kernel_rfl
theorem t137 : τ 137 = some ⟨.other, 1, 8, [.nilFunc], []⟩ := by kernel_rfl
theorem t138 : τ 138 = some ⟨.other, 1, 8, [.nilFunc], []⟩ := by kernel_rfl
theorem t139 : τ 139 = some ⟨.other, 1, 8, [.nilFunc], []⟩ := by kernel_rfl
theorem t140 : τ 140 = some ⟨.other, 1, 8, [.nilFunc], []⟩ := by kernel_rfl
theorem t141 : τ 141 = some ⟨.other, 1, 8, [.nilFunc], []⟩ := by kernel_rfl
theorem t142 : τ 142 = some ⟨.struct [(0, 1), (1, 1), (2, 1)], 3, 48, [.string .empty, .string .empty, .string .empty], [9, 9, 9]⟩ := by kernel_rfl
theorem t143 : τ 143 = some ⟨.struct [(0, 1), (1, 1), (2, 1)], 3, 48, [.string .empty, .string .empty, .string .empty], [9, 9, 9]⟩ := by kernel_rfl
theorem t144 : τ 144 = some ⟨.other, 1, 8, [.nilFunc], []⟩ := by kernel_rfl
theorem t145 : τ 145 = some ⟨.slice 9, 1, 24, [.slice none 0 0], []⟩ := by kernel_rfl
theorem t146 : τ 146 = some ⟨.other, 1, 8, [.nilFunc], []⟩ := by kernel_rfl
theorem t147 : τ 147 = some ⟨.other, 1, 8, [.nilFunc], []⟩ := by kernel_rfl
theorem t148 : τ 148 = some ⟨.other, 1, 8, [.nilFunc], []⟩ := by kernel_rfl
theorem t149 : τ 149 = some ⟨.other, 1, 8, [.nilFunc], []⟩ := by kernel_rfl
theorem t150 : τ 150 = some ⟨.other, 1, 8, [.nilFunc], []⟩ := by kernel_rfl
theorem t151 : τ 151 = some ⟨.other, 1, 8, [.nilFunc], []⟩ := by kernel_rfl
theorem t152 : τ 152 = some ⟨.other, 1, 8, [.nilFunc], []⟩ := by kernel_rfl
theorem t153 : τ 153 = some ⟨.other, 1, 8, [.nilFunc], []⟩ := by kernel_rfl
theorem t154 : τ 154 = some ⟨.other, 1, 8, [.nilFunc], []⟩ := by kernel_rfl
theorem t155 : τ 155 = some ⟨.other, 1, 8, [.nilFunc], []⟩ := by kernel_rfl
theorem t156 : τ 156 = some ⟨.other, 1, 16, [.nilIface], []⟩ := by kernel_rfl
theorem t157 : τ 157 = some ⟨.other, 1, 16, [.nilIface], []⟩ := by kernel_rfl
theorem t158 : τ 158 = some ⟨.other, 1, 8, [.nilFunc], []⟩ := by kernel_rfl
theorem t159 : τ 159 = some ⟨.other, 1, 8, [.nilFunc], []⟩ := by kernel_rfl
theorem t160 : τ 160 = some ⟨.struct [(0, 1), (1, 1)], 2, 32, [.slice none 0 0, .bool false], [47, 4]⟩ := by kernel_rfl
theorem t161 : τ 161 = some ⟨.struct [(0, 1), (1, 1)], 2, 32, [.slice none 0 0, .bool false], [47, 4]⟩ := by kernel_rfl
theorem t162 : τ 162 = some ⟨.other, 1, 8, [.nilFunc], []⟩ := by kernel_rfl
theorem t163 : τ 163 = some ⟨.struct [(0, 1), (1, 1), (2, 1), (3, 1)], 4, 80, [.slice none 0 0, .slice none 0 0, .slice none 0 0, .int .i64 0], [47, 47, 47, 2]⟩ := by kernel_rfl
theorem t164 : τ 164 = some ⟨.struct [(0, 1), (1, 1), (2, 1), (3, 1)], 4, 80, [.slice none 0 0, .slice none 0 0, .slice none 0 0, .int .i64 0], [47, 47, 47, 2]⟩ := by kernel_rfl
theorem t165 : τ 165 = some ⟨.struct [(0, 1), (1, 1), (2, 1), (3, 1)], 4, 96, [.slice none 0 0, .slice none 0 0, .slice none 0 0, .slice none 0 0], [47, 47, 47, 47]⟩ := by kernel_rfl
theorem t166 : τ 166 = some ⟨.struct [(0, 1), (1, 1), (2, 1), (3, 1)], 4, 96, [.slice none 0 0, .slice none 0 0, .slice none 0 0, .slice none 0 0], [47, 47, 47, 47]⟩ := by kernel_rfl
theorem t167 : τ 167 = some ⟨.struct [(0, 1), (1, 1), (2, 1), (3, 1)], 4, 80, [.slice none 0 0, .slice none 0 0, .slice none 0 0, .bool false], [47, 47, 47, 4]⟩ := by kernel_rfl
theorem t168 : τ 168 = some ⟨.struct [(0, 1), (1, 1), (2, 1), (3, 1)], 4, 80, [.slice none 0 0, .slice none 0 0, .slice none 0 0, .bool false], [47, 47, 47, 4]⟩ := by kernel_rfl
theorem t169 : τ 169 = some ⟨.struct [(0, 1), (1, 1), (2, 1), (3, 1), (4, 1)], 5, 88, [.slice none 0 0, .slice none 0 0, .slice none 0 0, .int .i64 0, .int .i64 0], [47, 47, 47, 2, 2]⟩ := by kernel_rfl
theorem t170 : τ 170 = some ⟨.struct [(0, 1), (1, 1), (2, 1), (3, 1), (4, 1)], 5, 88, [.slice none 0 0, .slice none 0 0, .slice none 0 0, .int .i64 0, .int .i64 0], [47, 47, 47, 2, 2]⟩ := by kernel_rfl
theorem t171 : τ 171 = some ⟨.struct [(0, 1), (1, 1)], 2, 32, [.string .empty, .string .empty], [9, 9]⟩ := by kernel_rfl
theorem t172 : τ 172 = some ⟨.struct [(0, 1), (1, 1)], 2, 32, [.string .empty, .string .empty], [9, 9]⟩ := by kernel_rfl
theorem t173 : τ 173 = some ⟨.struct [(0, 2), (2, 1)], 3, 48, [.string .empty, .string .empty, .string .empty], [172, 9]⟩ := by kernel_rfl
theorem t174 : τ 174 = some ⟨.struct [(0, 2), (2, 1)], 3, 48, [.string .empty, .string .empty, .string .empty], [172, 9]⟩ := by kernel_rfl
theorem t175 : τ 175 = some ⟨.other, 1, 8, [.nilFunc], []⟩ := by kernel_rfl
theorem t176 : τ 176 = some ⟨.other, 1, 8, [.nilFunc], []⟩ := by kernel_rfl
theorem t177 : τ 177 = some ⟨.other, 1, 8, [.nilFunc], []⟩ := by kernel_rfl
theorem t178 : τ 178 = some ⟨.struct [(0, 1)], 1, 24, [.slice none 0 0], [90]⟩ := by kernel_rfl
theorem t179 : τ 179 = some ⟨.struct [(0, 1)], 1, 24, [.slice none 0 0], [90]⟩ := by kernel_rfl
theorem t180 : τ 180 = some ⟨.other, 1, 8, [.nilFunc], []⟩ := by kernel_rfl
theorem t181 : τ 181 = some ⟨.other, 1, 8, [.nilFunc], []⟩ := by kernel_rfl
theorem t182 : τ 182 = some ⟨.other, 1, 8, [.nilFunc], []⟩ := by kernel_rfl
theorem t183 : τ 183 = some ⟨.other, 1, 8, [.nilFunc], []⟩ := by kernel_rfl
theorem t184 : τ 184 = some ⟨.other, 1, 8, [.nilFunc], []⟩ := by kernel_rfl
theorem t185 : τ 185 = some ⟨.other, 1, 8, [.nilFunc], []⟩ := by kernel_rfl
theorem t186 : τ 186 = some ⟨.other, 1, 8, [.nilFunc], []⟩ := by kernel_rfl
theorem t187 : τ 187 = some ⟨.other, 1, 8, [.nilFunc], []⟩ := by kernel_rfl
theorem t189 : τ 189 = some ⟨.other, 1, 8, [.nilFunc], []⟩ := by kernel_rfl
theorem t190 : τ 190 = some ⟨.other, 1, 8, [.nilFunc], []⟩ := by kernel_rfl
theorem t191 : τ 191 = some ⟨.other, 1, 8, [.nilFunc], []⟩ := by kernel_rfl
theorem t192 : τ 192 = some ⟨.other, 1, 8, [.nilFunc], []⟩ := by kernel_rfl
theorem t193 : τ 193 = some ⟨.other, 1, 8, [.nilFunc], []⟩ := by kernel_rfl
theorem t194 : τ 194 = some ⟨.other, 1, 8, [.nilFunc], []⟩ := by kernel_rfl
theorem t196 : τ 196 = some ⟨.other, 1, 8, [.nilFunc], []⟩ := by kernel_rfl
theorem t197 : τ 197 = some ⟨.other, 1, 8, [.nilFunc], []⟩ := by kernel_rfl
theorem t198 : τ 198 = some ⟨.slice 202, 1, 24, [.slice none 0 0], []⟩ := by kernel_rfl
theorem t199 : τ 199 = some ⟨.other, 1, 8, [.nilFunc], []⟩ := by kernel_rfl
theorem t200 : τ 200 = some ⟨.other, 1, 8, [.nilFunc], []⟩ := by kernel_rfl
theorem t201 : τ 201 = some ⟨.other, 1, 8, [.nilFunc], []⟩ := by kernel_rfl
theorem t202 : τ 202 = some ⟨.other, 1, 8, [.map none], []⟩ := by kernel_rfl
theorem t203 : τ 203 = some ⟨.other, 1, 8, [.nilFunc], []⟩ := by kernel_rfl
theorem t204 : τ 204 = some ⟨.other, 1, 8, [.nilFunc], []⟩ := by kernel_rfl
theorem t205 : τ 205 = some ⟨.other, 1, 8, [.nilFunc], []⟩ := by kernel_rfl
theorem t206 : τ 206 = some ⟨.slice 60, 1, 24, [.slice none 0 0], []⟩ := by kernel_rfl
theorem t207 : τ 207 = some ⟨.other, 1, 8, [.nilFunc], []⟩ := by kernel_rfl
theorem t208 : τ 208 = some ⟨.slice 143, 1, 24, [.slice none 0 0], []⟩ := by kernel_rfl
theorem t209 : τ 209 = some ⟨.other, 1, 8, [.nilFunc], []⟩ := by kernel_rfl
theorem t210 : τ 210 = some ⟨.other, 1, 8, [.nilFunc], []⟩ := by kernel_rfl
theorem t211 : τ 211 = some ⟨.other, 1, 8, [.nilFunc], []⟩ := by kernel_rfl
theorem t212 : τ 212 = some ⟨.other, 1, 8, [.nilFunc], []⟩ := by kernel_rfl
theorem t213 : τ 213 = some ⟨.other, 1, 8, [.nilFunc], []⟩ := by kernel_rfl
theorem t214 : τ 214 = some ⟨.struct [(0, 1), (1, 1), (2, 1)], 3, 56, [.int .i64 0, .slice none 0 0, .slice none 0 0], [2, 47, 47]⟩ := by kernel_rfl
theorem t215 : τ 215 = some ⟨.struct [(0, 1), (1, 1), (2, 1)], 3, 56, [.int .i64 0, .slice none 0 0, .slice none 0 0], [2, 47, 47]⟩ := by kernel_rfl
theorem t216 : τ 216 = some ⟨.other, 1, 8, [.nilFunc], []⟩ := by kernel_rfl
theorem t217 : τ 217 = some ⟨.other, 1, 8, [.nilFunc], []⟩ := by kernel_rfl
theorem t219 : τ 219 = some ⟨.other, 1, 8, [.nilFunc], []⟩ := by kernel_rfl
theorem t220 : τ 220 = some ⟨.other, 1, 8, [.nilFunc], []⟩ := by kernel_rfl
theorem t221 : τ 221 = some ⟨.other, 1, 8, [.nilFunc], []⟩ := by kernel_rfl
theorem t222 : τ 222 = some ⟨.other, 1, 8, [.nilFunc], []⟩ := by kernel_rfl
theorem t223 : τ 223 = some ⟨.other, 1, 8, [.nilFunc], []⟩ := by kernel_rfl
theorem t224 : τ 224 = some ⟨.other, 1, 8, [.nilFunc], []⟩ := by kernel_rfl
theorem t225 : τ 225 = some ⟨.int .u64, 1, 8, [.int .u64 0], []⟩ := by kernel_rfl
theorem t226 : τ 226 = some ⟨.other, 1, 8, [.nilFunc], []⟩ := by kernel_rfl
theorem t227 : τ 227 = some ⟨.other, 1, 8, [.nilFunc], []⟩ := by kernel_rfl
theorem t228 : τ 228 = some ⟨.other, 1, 8, [.pointer none], []⟩ := by kernel_rfl
theorem t229 : τ 229 = some ⟨.other, 1, 8, [.nilFunc], []⟩ := by kernel_rfl
theorem t230 : τ 230 = some ⟨.other, 1, 8, [.nilFunc], []⟩ := by kernel_rfl
theorem t231 : τ 231 = some ⟨.other, 1, 8, [.nilFunc], []⟩ := by kernel_rfl
theorem t232 : τ 232 = some ⟨.other, 1, 8, [.nilFunc], []⟩ := by kernel_rfl
theorem t233 : τ 233 = some ⟨.other, 1, 8, [.nilFunc], []⟩ := by kernel_rfl
theorem t234 : τ 234 = some ⟨.other, 1, 8, [.nilFunc], []⟩ := by kernel_rfl
theorem t235 : τ 235 = some ⟨.other, 1, 8, [.nilFunc], []⟩ := by kernel_rfl
theorem t236 : τ 236 = some ⟨.other, 1, 8, [.nilFunc], []⟩ := by kernel_rfl
theorem t237 : τ 237 = some ⟨.other, 1, 8, [.nilFunc], []⟩ := by kernel_rfl
theorem t239 : τ 239 = some ⟨.other, 1, 8, [.nilFunc], []⟩ := by kernel_rfl
theorem t240 : τ 240 = some ⟨.other, 1, 8, [.nilFunc], []⟩ := by kernel_rfl
theorem t241 : τ 241 = some ⟨.slice 243, 1, 24, [.slice none 0 0], []⟩ := by kernel_rfl
theorem t242 : τ 242 = some ⟨.struct [(0, 1), (1, 1)], 2, 16, [.int .i64 0, .int .i64 0], [2, 2]⟩ := by kernel_rfl
theorem t243 : τ 243 = some ⟨.struct [(0, 1), (1, 1)], 2, 16, [.int .i64 0, .int .i64 0], [2, 2]⟩ := by kernel_rfl
theorem t244 : τ 244 = some ⟨.other, 1, 8, [.nilFunc], []⟩ := by kernel_rfl
theorem t245 : τ 245 = some ⟨.other, 1, 8, [.nilFunc], []⟩ := by kernel_rfl
theorem t246 : τ 246 = some ⟨.other, 1, 8, [.nilFunc], []⟩ := by kernel_rfl
theorem t247 : τ 247 = some ⟨.other, 1, 8, [.nilFunc], []⟩ := by kernel_rfl
theorem t248 : τ 248 = some ⟨.other, 1, 8, [.nilFunc], []⟩ := by kernel_rfl
theorem t249 : τ 249 = some ⟨.other, 1, 8, [.nilFunc], []⟩ := by kernel_rfl
theorem t250 : τ 250 = some ⟨.other, 1, 8, [.nilFunc], []⟩ := by kernel_rfl
theorem t251 : τ 251 = some ⟨.other, 1, 8, [.nilFunc], []⟩ := by kernel_rfl
theorem t252 : τ 252 = some ⟨.other, 1, 8, [.nilFunc], []⟩ := by kernel_rfl
theorem t253 : τ 253 = some ⟨.int .i64, 1, 8, [.int .i64 0], []⟩ := by kernel_rfl
theorem t255 : τ 255 = some ⟨.other, 1, 8, [.nilFunc], []⟩ := by kernel_rfl
theorem t256 : τ 256 = some ⟨.other, 1, 8, [.nilFunc], []⟩ := by kernel_rfl
theorem t257 : τ 257 = some ⟨.other, 1, 8, [.nilFunc], []⟩ := by kernel_rfl
theorem t258 : τ 258 = some ⟨.other, 1, 8, [.nilFunc], []⟩ := by kernel_rfl
theorem t259 : τ 259 = some ⟨.other, 1, 8, [.nilFunc], []⟩ := by kernel_rfl
theorem t260 : τ 260 = some ⟨.other, 1, 8, [.nilFunc], []⟩ := by kernel_rfl
attribute [irreducible] τ
attribute [simp] t1 t2 t3 t4 t5 t6 t7 t8 t9 t10 t11 t12 t13 t14 t15 t16 t17 t18 t19 t20 t21 t22 t23 t24 t25 t26 t27 t29 t30 t31 t32 t33 t34 t36 t37 t38 t39 t41 t42 t43 t44 t45 t46 t47 t48 t49 t50 t51 t52 t53 t54 t55 t56 t58 t59 t60 t61 t62 t63 t64 t65 t66 t67 t68 t70 t71 t72 t73 t74 t75 t76 t77 t78 t79 t80 t81 t82 t83 t84 t85 t86 t87 t88 t89 t90 t91 t92 t93 t94 t95 t97 t98 t100 t101 t102 t103 t104 t105 t106 t107 t108 t109 t110 t111 t112 t113 t114 t115 t116 t117 t118 t119 t120 t121 t122 t123 t124 t125 t127 t128 t129 t130 t131 t132 t133 t134 t135 t136 t137 t138 t139 t140 t141 t142 t143 t144 t145 t146 t147 t148 t149 t150 t151 t152 t153 t154 t155 t156 t157 t158 t159 t160 t161 t162 t163 t164 t165 t166 t167 t168 t169 t170 t171 t172 t173 t174 t175 t176 t177 t178 t179 t180 t181 t182 t183 t184 t185 t186 t187 t189 t190 t191 t192 t193 t194 t196 t197 t198 t199 t200 t201 t202 t203 t204 t205 t206 t207 t208 t209 t210 t211 t212 t213 t214 t215 t216 t217 t219 t220 t221 t222 t223 t224 t225 t226 t227 t228 t229 t230 t231 t232 t233 t234 t235 t236 t237 t239 t240 t241 t242 t243 t244 t245 t246 t247 t248 t249 t250 t251 t252 t253 t255 t256 t257 t258 t259 t260
@[simp] theorem d1 : desc τ 1 = some (.other) := by simp [desc]
@[simp] theorem d2 : desc τ 2 = some (.int .i64) := by simp [desc]
@[simp] theorem d3 : desc τ 3 = some (.int .i64) := by simp [desc]
@[simp] theorem d4 : desc τ 4 = some (.bool) := by simp [desc]
@[simp] theorem d5 : desc τ 5 = some (.int .u8) := by simp [desc]
@[simp] theorem d6 : desc τ 6 = some (.int .u8) := by simp [desc]
@[simp] theorem d7 : desc τ 7 = some (.struct [(0, 1), (1, 1), (2, 1), (3, 1)]) := by simp [desc]
@[simp] theorem d8 : desc τ 8 = some (.struct [(0, 1), (1, 1), (2, 1), (3, 1)]) := by simp [desc]
@[simp] theorem d9 : desc τ 9 = some (.str) := by simp [desc]
@[simp] theorem d10 : desc τ 10 = some (.str) := by simp [desc]
@[simp] theorem d11 : desc τ 11 = some (.str) := by simp [desc]
@[simp] theorem d12 : desc τ 12 = some (.int .u64) := by simp [desc]
@[simp] theorem d13 : desc τ 13 = some (.struct [(0, 1), (1, 1)]) := by simp [desc]
@[simp] theorem d14 : desc τ 14 = some (.struct [(0, 1), (1, 1)]) := by simp [desc]
@[simp] theorem d15 : desc τ 15 = some (.other) := by simp [desc]
@[simp] theorem d16 : desc τ 16 = some (.other) := by simp [desc]
@[simp] theorem d17 : desc τ 17 = some (.other) := by simp [desc]
@[simp] theorem d18 : desc τ 18 = some (.struct [(0, 1)]) := by simp [desc]
@[simp] theorem d19 : desc τ 19 = some (.struct [(0, 1)]) := by simp [desc]
@[simp] theorem d20 : desc τ 20 = some (.other) := by simp [desc]
@[simp] theorem d21 : desc τ 21 = some (.int .i32) := by simp [desc]
@[simp] theorem d22 : desc τ 22 = some (.slice 62) := by simp [desc]
@[simp] theorem e22 : elemOf τ 22 = some (62, ⟨.struct [(0, 1), (1, 1)], 2, 32, [.bool false, .slice none 0 0], [4, 60]⟩) := by simp [elemOf]
@[simp] theorem d23 : desc τ 23 = some (.struct [(0, 1), (1, 1)]) := by simp [desc]
@[simp] theorem d24 : desc τ 24 = some (.struct [(0, 1), (1, 1)]) := by simp [desc]
@[simp] theorem d25 : desc τ 25 = some (.slice 53) := by simp [desc]
@[simp] theorem e25 : elemOf τ 25 = some (53, ⟨.struct [(0, 1), (1, 1), (2, 1)], 3, 40, [.bool false, .int .i64 0, .slice none 0 0], [4, 2, 47]⟩) := by simp [elemOf]
@[simp] theorem d26 : desc τ 26 = some (.other) := by simp [desc]
@[simp] theorem d27 : desc τ 27 = some (.int .i64) := by simp [desc]
@[simp] theorem d29 : desc τ 29 = some (.other) := by simp [desc]
@[simp] theorem d30 : desc τ 30 = some (.other) := by simp [desc]
@[simp] theorem d31 : desc τ 31 = some (.other) := by simp [desc]
@[simp] theorem d32 : desc τ 32 = some (.other) := by simp [desc]
@[simp] theorem d33 : desc τ 33 = some (.slice 49) := by simp [desc]
@[simp] theorem e33 : elemOf τ 33 = some (49, ⟨.struct [(0, 1), (1, 1), (2, 1), (3, 1), (4, 1), (5, 1)], 6, 96, [.bool false, .slice none 0 0, .slice none 0 0, .slice none 0 0, .int .i64 0, .int .i64 0], [4, 46, 47, 47, 3, 3]⟩) := by simp [elemOf]
@[simp] theorem d34 : desc τ 34 = some (.other) := by simp [desc]
@[simp] theorem d36 : desc τ 36 = some (.other) := by simp [desc]
@[simp] theorem d37 : desc τ 37 = some (.other) := by simp [desc]
@[simp] theorem d38 : desc τ 38 = some (.other) := by simp [desc]
@[simp] theorem d39 : desc τ 39 = some (.slice 25) := by simp [desc]
@[simp] theorem e39 : elemOf τ 39 = some (25, ⟨.slice 53, 1, 24, [.slice none 0 0], []⟩) := by simp [elemOf]
@[simp] theorem d41 : desc τ 41 = some (.other) := by simp [desc]
@[simp] theorem d42 : desc τ 42 = some (.other) := by simp [desc]
@[simp] theorem d43 : desc τ 43 = some (.other) := by simp [desc]
@[simp] theorem d44 : desc τ 44 = some (.other) := by simp [desc]
@[simp] theorem d45 : desc τ 45 = some (.other) := by simp [desc]
@[simp] theorem d46 : desc τ 46 = some (.slice 84) := by simp [desc]
@[simp] theorem e46 : elemOf τ 46 = some (84, ⟨.struct [(0, 1), (1, 1)], 2, 16, [.int .i64 0, .int .i64 0], [2, 2]⟩) := by simp [elemOf]
@[simp] theorem d47 : desc τ 47 = some (.slice 2) := by simp [desc]
@[simp] theorem e47 : elemOf τ 47 = some (2, ⟨.int .i64, 1, 8, [.int .i64 0], []⟩) := by simp [elemOf]
@[simp] theorem d48 : desc τ 48 = some (.struct [(0, 1), (1, 1), (2, 1), (3, 1), (4, 1), (5, 1)]) := by simp [desc]
@[simp] theorem d49 : desc τ 49 = some (.struct [(0, 1), (1, 1), (2, 1), (3, 1), (4, 1), (5, 1)]) := by simp [desc]
@[simp] theorem d50 : desc τ 50 = some (.other) := by simp [desc]
@[simp] theorem d51 : desc τ 51 = some (.other) := by simp [desc]
@[simp] theorem d52 : desc τ 52 = some (.struct [(0, 1), (1, 1), (2, 1)]) := by simp [desc]
@[simp] theorem d53 : desc τ 53 = some (.struct [(0, 1), (1, 1), (2, 1)]) := by simp [desc]
@[simp] theorem d54 : desc τ 54 = some (.other) := by simp [desc]
@[simp] theorem d55 : desc τ 55 = some (.other) := by simp [desc]
@[simp] theorem d56 : desc τ 56 = some (.other) := by simp [desc]
@[simp] theorem d58 : desc τ 58 = some (.other) := by simp [desc]
@[simp] theorem d59 : desc τ 59 = some (.other) := by simp [desc]
@[simp] theorem d60 : desc τ 60 = some (.slice 64) := by simp [desc]
@[simp] theorem e60 : elemOf τ 60 = some (64, ⟨.struct [(0, 1), (1, 3)], 4, 48, [.int .i64 0, .bool false, .int .i64 0, .slice none 0 0], [3, 53]⟩) := by simp [elemOf]
@[simp] theorem d61 : desc τ 61 = some (.struct [(0, 1), (1, 1)]) := by simp [desc]
@[simp] theorem d62 : desc τ 62 = some (.struct [(0, 1), (1, 1)]) := by simp [desc]
@[simp] theorem d63 : desc τ 63 = some (.struct [(0, 1), (1, 3)]) := by simp [desc]
@[simp] theorem d64 : desc τ 64 = some (.struct [(0, 1), (1, 3)]) := by simp [desc]
@[simp] theorem d65 : desc τ 65 = some (.slice 3) := by simp [desc]
@[simp] theorem e65 : elemOf τ 65 = some (3, ⟨.int .i64, 1, 8, [.int .i64 0], []⟩) := by simp [elemOf]
@[simp] theorem d66 : desc τ 66 = some (.other) := by simp [desc]
@[simp] theorem d67 : desc τ 67 = some (.other) := by simp [desc]
@[simp] theorem d68 : desc τ 68 = some (.other) := by simp [desc]
@[simp] theorem d70 : desc τ 70 = some (.other) := by simp [desc]
@[simp] theorem d71 : desc τ 71 = some (.other) := by simp [desc]
@[simp] theorem d72 : desc τ 72 = some (.other) := by simp [desc]
@[simp] theorem d73 : desc τ 73 = some (.other) := by simp [desc]
@[simp] theorem d74 : desc τ 74 = some (.other) := by simp [desc]
@[simp] theorem d75 : desc τ 75 = some (.other) := by simp [desc]
@[simp] theorem d76 : desc τ 76 = some (.other) := by simp [desc]
@[simp] theorem d77 : desc τ 77 = some (.other) := by simp [desc]
@[simp] theorem d78 : desc τ 78 = some (.other) := by simp [desc]
@[simp] theorem d79 : desc τ 79 = some (.other) := by simp [desc]
@[simp] theorem d80 : desc τ 80 = some (.other) := by simp [desc]
@[simp] theorem d81 : desc τ 81 = some (.other) := by simp [desc]
@[simp] theorem d82 : desc τ 82 = some (.other) := by simp [desc]
@[simp] theorem d83 : desc τ 83 = some (.struct [(0, 1), (1, 1)]) := by simp [desc]
@[simp] theorem d84 : desc τ 84 = some (.struct [(0, 1), (1, 1)]) := by simp [desc]
@[simp] theorem d85 : desc τ 85 = some (.other) := by simp [desc]
@[simp] theorem d86 : desc τ 86 = some (.other) := by simp [desc]
@[simp] theorem d87 : desc τ 87 = some (.other) := by simp [desc]
@[simp] theorem d88 : desc τ 88 = some (.other) := by simp [desc]
@[simp] theorem d89 : desc τ 89 = some (.other) := by simp [desc]
@[simp] theorem d90 : desc τ 90 = some (.slice 4) := by simp [desc]
@[simp] theorem e90 : elemOf τ 90 = some (4, ⟨.bool, 1, 1, [.bool false], []⟩) := by simp [elemOf]
@[simp] theorem d91 : desc τ 91 = some (.other) := by simp [desc]
@[simp] theorem d92 : desc τ 92 = some (.other) := by simp [desc]
@[simp] theorem d93 : desc τ 93 = some (.other) := by simp [desc]
@[simp] theorem d94 : desc τ 94 = some (.other) := by simp [desc]
@[simp] theorem d95 : desc τ 95 = some (.other) := by simp [desc]
@[simp] theorem d97 : desc τ 97 = some (.other) := by simp [desc]
@[simp] theorem d98 : desc τ 98 = some (.other) := by simp [desc]
@[simp] theorem d100 : desc τ 100 = some (.other) := by simp [desc]
@[simp] theorem d101 : desc τ 101 = some (.other) := by simp [desc]
@[simp] theorem d102 : desc τ 102 = some (.other) := by simp [desc]
@[simp] theorem d103 : desc τ 103 = some (.other) := by simp [desc]
@[simp] theorem d104 : desc τ 104 = some (.slice 47) := by simp [desc]
@[simp] theorem e104 : elemOf τ 104 = some (47, ⟨.slice 2, 1, 24, [.slice none 0 0], []⟩) := by simp [elemOf]
@[simp] theorem d105 : desc τ 105 = some (.other) := by simp [desc]
@[simp] theorem d106 : desc τ 106 = some (.other) := by simp [desc]
@[simp] theorem d107 : desc τ 107 = some (.other) := by simp [desc]
@[simp] theorem d108 : desc τ 108 = some (.other) := by simp [desc]
@[simp] theorem d109 : desc τ 109 = some (.other) := by simp [desc]
@[simp] theorem d110 : desc τ 110 = some (.other) := by simp [desc]
@[simp] theorem d111 : desc τ 111 = some (.other) := by simp [desc]
@[simp] theorem d112 : desc τ 112 = some (.other) := by simp [desc]
@[simp] theorem d113 : desc τ 113 = some (.other) := by simp [desc]
@[simp] theorem d114 : desc τ 114 = some (.other) := by simp [desc]
@[simp] theorem d115 : desc τ 115 = some (.other) := by simp [desc]
@[simp] theorem d116 : desc τ 116 = some (.other) := by simp [desc]
@[simp] theorem d117 : desc τ 117 = some (.other) := by simp [desc]
@[simp] theorem d118 : desc τ 118 = some (.other) := by simp [desc]
@[simp] theorem d119 : desc τ 119 = some (.other) := by simp [desc]
@[simp] theorem d120 : desc τ 120 = some (.other) := by simp [desc]
@[simp] theorem d121 : desc τ 121 = some (.other) := by simp [desc]
@[simp] theorem d122 : desc τ 122 = some (.struct [(0, 1), (1, 1)]) := by simp [desc]
@[simp] theorem d123 : desc τ 123 = some (.struct [(0, 1), (1, 1)]) := by simp [desc]
@[simp] theorem d124 : desc τ 124 = some (.other) := by simp [desc]
@[simp] theorem d125 : desc τ 125 = some (.other) := by simp [desc]
@[simp] theorem d127 : desc τ 127 = some (.other) := by simp [desc]
@[simp] theorem d128 : desc τ 128 = some (.other) := by simp [desc]
@[simp] theorem d129 : desc τ 129 = some (.other) := by simp [desc]
@[simp] theorem d130 : desc τ 130 = some (.other) := by simp [desc]
@[simp] theorem d131 : desc τ 131 = some (.struct [(0, 2), (2, 1), (3, 1), (4, 1)]) := by simp [desc]
@[simp] theorem d132 : desc τ 132 = some (.struct [(0, 2), (2, 1), (3, 1), (4, 1)]) := by simp [desc]
@[simp] theorem d133 : desc τ 133 = some (.other) := by simp [desc]
@[simp] theorem d134 : desc τ 134 = some (.other) := by simp [desc]
@[simp] theorem d135 : desc τ 135 = some (.other) := by simp [desc]
@[simp] theorem d136 : desc τ 136 = some (.other) := by simp [desc]
@[simp] theorem d137 : desc τ 137 = some (.other) := by simp [desc]
@[simp] theorem d138 : desc τ 138 = some (.other) := by simp [desc]
@[simp] theorem d139 : desc τ 139 = some (.other) := by simp [desc]
@[simp] theorem d140 : desc τ 140 = some (.other) := by simp [desc]
@[simp] theorem d141 : desc τ 141 = some (.other) := by simp [desc]
@[simp] theorem d142 : desc τ 142 = some (.struct [(0, 1), (1, 1), (2, 1)]) := by simp [desc]
@[simp] theorem d143 : desc τ 143 = some (.struct [(0, 1), (1, 1), (2, 1)]) := by simp [desc]
@[simp] theorem d144 : desc τ 144 = some (.other) := by simp [desc]
@[simp] theorem d145 : desc τ 145 = some (.slice 9) := by simp [desc]
@[simp] theorem e145 : elemOf τ 145 = some (9, ⟨.str, 1, 16, [.string .empty], []⟩) := by simp [elemOf]
@[simp] theorem d146 : desc τ 146 = some (.other) := by simp [desc]
@[simp] theorem d147 : desc τ 147 = some (.other) := by simp [desc]
@[simp] theorem d148 : desc τ 148 = some (.other) := by simp [desc]
@[simp] theorem d149 : desc τ 149 = some (.other) := by simp [desc]
@[simp] theorem d150 : desc τ 150 = some (.other) := by simp [desc]
@[simp] theorem d151 : desc τ 151 = some (.other) := by simp [desc]
@[simp] theorem d152 : desc τ 152 = some (.other) := by simp [desc]
@[simp] theorem d153 : desc τ 153 = some (.other) := by simp [desc]
@[simp] theorem d154 : desc τ 154 = some (.other) := by simp [desc]
@[simp] theorem d155 : desc τ 155 = some (.other) := by simp [desc]
@[simp] theorem d156 : desc τ 156 = some (.other) := by simp [desc]
@[simp] theorem d157 : desc τ 157 = some (.other) := by simp [desc]
@[simp] theorem d158 : desc τ 158 = some (.other) := by simp [desc]
@[simp] theorem d159 : desc τ 159 = some (.other) := by simp [desc]
@[simp] theorem d160 : desc τ 160 = some (.struct [(0, 1), (1, 1)]) := by simp [desc]
@[simp] theorem d161 : desc τ 161 = some (.struct [(0, 1), (1, 1)]) := by simp [desc]
@[simp] theorem d162 : desc τ 162 = some (.other) := by simp [desc]
@[simp] theorem d163 : desc τ 163 = some (.struct [(0, 1), (1, 1), (2, 1), (3, 1)]) := by simp [desc]
@[simp] theorem d164 : desc τ 164 = some (.struct [(0, 1), (1, 1), (2, 1), (3, 1)]) := by simp [desc]
@[simp] theorem d165 : desc τ 165 = some (.struct [(0, 1), (1, 1), (2, 1), (3, 1)]) := by simp [desc]
@[simp] theorem d166 : desc τ 166 = some (.struct [(0, 1), (1, 1), (2, 1), (3, 1)]) := by simp [desc]
@[simp] theorem d167 : desc τ 167 = some (.struct [(0, 1), (1, 1), (2, 1), (3, 1)]) := by simp [desc]
@[simp] theorem d168 : desc τ 168 = some (.struct [(0, 1), (1, 1), (2, 1), (3, 1)]) := by simp [desc]
@[simp] theorem d169 : desc τ 169 = some (.struct [(0, 1), (1, 1), (2, 1), (3, 1), (4, 1)]) := by simp [desc]
@[simp] theorem d170 : desc τ 170 = some (.struct [(0, 1), (1, 1), (2, 1), (3, 1), (4, 1)]) := by simp [desc]
@[simp] theorem d171 : desc τ 171 = some (.struct [(0, 1), (1, 1)]) := by simp [desc]
@[simp] theorem d172 : desc τ 172 = some (.struct [(0, 1), (1, 1)]) := by simp [desc]
@[simp] theorem d173 : desc τ 173 = some (.struct [(0, 2), (2, 1)]) := by simp [desc]
@[simp] theorem d174 : desc τ 174 = some (.struct [(0, 2), (2, 1)]) := by simp [desc]
@[simp] theorem d175 : desc τ 175 = some (.other) := by simp [desc]
@[simp] theorem d176 : desc τ 176 = some (.other) := by simp [desc]
@[simp] theorem d177 : desc τ 177 = some (.other) := by simp [desc]
@[simp] theorem d178 : desc τ 178 = some (.struct [(0, 1)]) := by simp [desc]
@[simp] theorem d179 : desc τ 179 = some (.struct [(0, 1)]) := by simp [desc]
@[simp] theorem d180 : desc τ 180 = some (.other) := by simp [desc]
@[simp] theorem d181 : desc τ 181 = some (.other) := by simp [desc]
@[simp] theorem d182 : desc τ 182 = some (.other) := by simp [desc]
@[simp] theorem d183 : desc τ 183 = some (.other) := by simp [desc]
@[simp] theorem d184 : desc τ 184 = some (.other) := by simp [desc]
@[simp] theorem d185 : desc τ 185 = some (.other) := by simp [desc]
@[simp] theorem d186 : desc τ 186 = some (.other) := by simp [desc]
@[simp] theorem d187 : desc τ 187 = some (.other) := by simp [desc]
@[simp] theorem d189 : desc τ 189 = some (.other) := by simp [desc]
@[simp] theorem d190 : desc τ 190 = some (.other) := by simp [desc]
@[simp] theorem d191 : desc τ 191 = some (.other) := by simp [desc]
@[simp] theorem d192 : desc τ 192 = some (.other) := by simp [desc]
@[simp] theorem d193 : desc τ 193 = some (.other) := by simp [desc]
@[simp] theorem d194 : desc τ 194 = some (.other) := by simp [desc]
@[simp] theorem d196 : desc τ 196 = some (.other) := by simp [desc]
@[simp] theorem d197 : desc τ 197 = some (.other) := by simp [desc]
@[simp] theorem d198 : desc τ 198 = some (.slice 202) := by simp [desc]
@[simp] theorem e198 : elemOf τ 198 = some (202, ⟨.other, 1, 8, [.map none], []⟩) := by simp [elemOf]
@[simp] theorem d199 : desc τ 199 = some (.other) := by simp [desc]
@[simp] theorem d200 : desc τ 200 = some (.other) := by simp [desc]
@[simp] theorem d201 : desc τ 201 = some (.other) := by simp [desc]
@[simp] theorem d202 : desc τ 202 = some (.other) := by simp [desc]
@[simp] theorem d203 : desc τ 203 = some (.other) := by simp [desc]
@[simp] theorem d204 : desc τ 204 = some (.other) := by simp [desc]
@[simp] theorem d205 : desc τ 205 = some (.other) := by simp [desc]
@[simp] theorem d206 : desc τ 206 = some (.slice 60) := by simp [desc]
@[simp] theorem e206 : elemOf τ 206 = some (60, ⟨.slice 64, 1, 24, [.slice none 0 0], []⟩) := by simp [elemOf]
@[simp] theorem d207 : desc τ 207 = some (.other) := by simp [desc]
@[simp] theorem d208 : desc τ 208 = some (.slice 143) := by simp [desc]
@[simp] theorem e208 : elemOf τ 208 = some (143, ⟨.struct [(0, 1), (1, 1), (2, 1)], 3, 48, [.string .empty, .string .empty, .string .empty], [9, 9, 9]⟩) := by simp [elemOf]
@[simp] theorem d209 : desc τ 209 = some (.other) := by simp [desc]
@[simp] theorem d210 : desc τ 210 = some (.other) := by simp [desc]
@[simp] theorem d211 : desc τ 211 = some (.other) := by simp [desc]
@[simp] theorem d212 : desc τ 212 = some (.other) := by simp [desc]
@[simp] theorem d213 : desc τ 213 = some (.other) := by simp [desc]
@[simp] theorem d214 : desc τ 214 = some (.struct [(0, 1), (1, 1), (2, 1)]) := by simp [desc]
@[simp] theorem d215 : desc τ 215 = some (.struct [(0, 1), (1, 1), (2, 1)]) := by simp [desc]
@[simp] theorem d216 : desc τ 216 = some (.other) := by simp [desc]
@[simp] theorem d217 : desc τ 217 = some (.other) := by simp [desc]
@[simp] theorem d219 : desc τ 219 = some (.other) := by simp [desc]
@[simp] theorem d220 : desc τ 220 = some (.other) := by simp [desc]
@[simp] theorem d221 : desc τ 221 = some (.other) := by simp [desc]
@[simp] theorem d222 : desc τ 222 = some (.other) := by simp [desc]
@[simp] theorem d223 : desc τ 223 = some (.other) := by simp [desc]
@[simp] theorem d224 : desc τ 224 = some (.other) := by simp [desc]
@[simp] theorem d225 : desc τ 225 = some (.int .u64) := by simp [desc]
@[simp] theorem d226 : desc τ 226 = some (.other) := by simp [desc]
@[simp] theorem d227 : desc τ 227 = some (.other) := by simp [desc]
@[simp] theorem d228 : desc τ 228 = some (.other) := by simp [desc]
@[simp] theorem d229 : desc τ 229 = some (.other) := by simp [desc]
@[simp] theorem d230 : desc τ 230 = some (.other) := by simp [desc]
@[simp] theorem d231 : desc τ 231 = some (.other) := by simp [desc]
@[simp] theorem d232 : desc τ 232 = some (.other) := by simp [desc]
@[simp] theorem d233 : desc τ 233 = some (.other) := by simp [desc]
@[simp] theorem d234 : desc τ 234 = some (.other) := by simp [desc]
@[simp] theorem d235 : desc τ 235 = some (.other) := by simp [desc]
@[simp] theorem d236 : desc τ 236 = some (.other) := by simp [desc]
@[simp] theorem d237 : desc τ 237 = some (.other) := by simp [desc]
@[simp] theorem d239 : desc τ 239 = some (.other) := by simp [desc]
@[simp] theorem d240 : desc τ 240 = some (.other) := by simp [desc]
@[simp] theorem d241 : desc τ 241 = some (.slice 243) := by simp [desc]
@[simp] theorem e241 : elemOf τ 241 = some (243, ⟨.struct [(0, 1), (1, 1)], 2, 16, [.int .i64 0, .int .i64 0], [2, 2]⟩) := by simp [elemOf]
@[simp] theorem d242 : desc τ 242 = some (.struct [(0, 1), (1, 1)]) := by simp [desc]
@[simp] theorem d243 : desc τ 243 = some (.struct [(0, 1), (1, 1)]) := by simp [desc]
@[simp] theorem d244 : desc τ 244 = some (.other) := by simp [desc]
@[simp] theorem d245 : desc τ 245 = some (.other) := by simp [desc]
@[simp] theorem d246 : desc τ 246 = some (.other) := by simp [desc]
@[simp] theorem d247 : desc τ 247 = some (.other) := by simp [desc]
@[simp] theorem d248 : desc τ 248 = some (.other) := by simp [desc]
@[simp] theorem d249 : desc τ 249 = some (.other) := by simp [desc]
@[simp] theorem d250 : desc τ 250 = some (.other) := by simp [desc]
@[simp] theorem d251 : desc τ 251 = some (.other) := by simp [desc]
@[simp] theorem d252 : desc τ 252 = some (.other) := by simp [desc]
@[simp] theorem d253 : desc τ 253 = some (.int .i64) := by simp [desc]
@[simp] theorem d255 : desc τ 255 = some (.other) := by simp [desc]
@[simp] theorem d256 : desc τ 256 = some (.other) := by simp [desc]
@[simp] theorem d257 : desc τ 257 = some (.other) := by simp [desc]
@[simp] theorem d258 : desc τ 258 = some (.other) := by simp [desc]
@[simp] theorem d259 : desc τ 259 = some (.other) := by simp [desc]
@[simp] theorem d260 : desc τ 260 = some (.other) := by simp [desc]
end Go.LI.T
