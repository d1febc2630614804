/-
  Texts of this proof, part 8: Tab Kma Koc Kod Ab52.
-/
import Derived.Test.YtdogdjcjmhogmaaQMoveRuns7
import Derived.Lib.MinMax
import Derived.Test.YtdogdjcjmhogmaaProg
namespace Go.Proofs.Ytdogdjcjmhogmaa
set_option maxRecDepth 100000 in
def tab : Tab :=
  (.node 119 ⟨1, 8, [.nilFunc], .other⟩ (.node 61 ⟨1, 8, [.nilFunc], .other⟩ (.node 28 ⟨1, 8, [.nilFunc], .other⟩ (.node 14 ⟨2, 24, [.string ⟨#[]⟩, .int .u64 0], (.struct [(0, 1), (1, 1)])⟩ (.node 7 ⟨4, 24, [.int .i64 0, .int .i64 0, .bool false, .int .u8 0], (.struct [(0, 1), (1, 1), (2, 1), (3, 1)])⟩ (.node 4 ⟨1, 1, [.bool false], .bool⟩ (.node 2 ⟨1, 8, [.int .i64 0], (.int .i64)⟩ (.node 1 ⟨1, 8, [.nilFunc], .other⟩ .nil .nil) (.node 3 ⟨1, 8, [.int .i64 0], (.int .i64)⟩ .nil .nil)) (.node 6 ⟨1, 1, [.int .u8 0], (.int .u8)⟩ (.node 5 ⟨1, 1, [.int .u8 0], (.int .u8)⟩ .nil .nil) .nil)) (.node 11 ⟨1, 16, [.string ⟨#[]⟩], .string⟩ (.node 9 ⟨1, 16, [.string ⟨#[]⟩], .string⟩ (.node 8 ⟨4, 24, [.int .i64 0, .int .i64 0, .bool false, .int .u8 0], (.struct [(0, 1), (1, 1), (2, 1), (3, 1)])⟩ .nil .nil) (.node 10 ⟨1, 16, [.string ⟨#[]⟩], .string⟩ .nil .nil)) (.node 13 ⟨2, 24, [.string ⟨#[]⟩, .int .u64 0], (.struct [(0, 1), (1, 1)])⟩ (.node 12 ⟨1, 8, [.int .u64 0], (.int .u64)⟩ .nil .nil) .nil))) (.node 21 ⟨1, 4, [.int .i32 0], (.int .i32)⟩ (.node 18 ⟨1, 8, [.pointer none], (.struct [(0, 1)])⟩ (.node 16 ⟨1, 8, [.pointer none], .other⟩ (.node 15 ⟨1, 8, [.pointer none], .other⟩ .nil .nil) (.node 17 ⟨1, 8, [.pointer none], .other⟩ .nil .nil)) (.node 20 ⟨1, 16, [.nilIface], .other⟩ (.node 19 ⟨1, 8, [.pointer none], (.struct [(0, 1)])⟩ .nil .nil) .nil)) (.node 24 ⟨1, 8, [.pointer none], .other⟩ (.node 23 ⟨1, 24, [.slice none 0 0], (.slice 34)⟩ (.node 22 ⟨1, 24, [.slice none 0 0], (.slice 3)⟩ .nil .nil) .nil) (.node 27 ⟨1, 8, [.nilFunc], .other⟩ (.node 25 ⟨1, 8, [.int .i64 0], (.int .i64)⟩ .nil .nil) .nil)))) (.node 43 ⟨1, 8, [.pointer none], .other⟩ (.node 36 ⟨1, 8, [.nilFunc], .other⟩ (.node 32 ⟨1, 24, [.slice none 0 0], (.slice 5)⟩ (.node 30 ⟨1, 8, [.map none], .other⟩ (.node 29 ⟨1, 8, [.nilFunc], .other⟩ .nil .nil) (.node 31 ⟨1, 8, [.map none], .other⟩ .nil .nil)) (.node 34 ⟨4, 64, [.int .i64 0, .int .i64 0, .slice none 0 0, .slice none 0 0], (.struct [(0, 1), (1, 1), (2, 1), (3, 1)])⟩ (.node 33 ⟨4, 64, [.int .i64 0, .int .i64 0, .slice none 0 0, .slice none 0 0], (.struct [(0, 1), (1, 1), (2, 1), (3, 1)])⟩ .nil .nil) .nil)) (.node 40 ⟨1, 8, [.nilFunc], .other⟩ (.node 38 ⟨1, 24, [.slice none 0 0], (.slice 22)⟩ (.node 37 ⟨1, 8, [.nilFunc], .other⟩ .nil .nil) .nil) (.node 42 ⟨1, 8, [.nilFunc], .other⟩ (.node 41 ⟨1, 8, [.nilFunc], .other⟩ .nil .nil) .nil))) (.node 53 ⟨1, 8, [.nilFunc], .other⟩ (.node 48 ⟨1, 8, [.nilFunc], .other⟩ (.node 45 ⟨1, 8, [.map none], .other⟩ (.node 44 ⟨1, 8, [.nilFunc], .other⟩ .nil .nil) (.node 46 ⟨1, 8, [.map none], .other⟩ .nil .nil)) (.node 52 ⟨1, 8, [.nilFunc], .other⟩ (.node 50 ⟨1, 8, [.nilFunc], .other⟩ .nil .nil) .nil)) (.node 57 ⟨1, 8, [.pointer none], .other⟩ (.node 56 ⟨1, 8, [.nilFunc], .other⟩ (.node 54 ⟨1, 8, [.nilFunc], .other⟩ .nil .nil) .nil) (.node 59 ⟨2, 24, [.string ⟨#[]⟩, .int .i64 0], (.struct [(0, 1), (1, 1)])⟩ (.node 58 ⟨2, 24, [.string ⟨#[]⟩, .int .i64 0], (.struct [(0, 1), (1, 1)])⟩ .nil .nil) .nil))))) (.node 91 ⟨1, 8, [.nilFunc], .other⟩ (.node 76 ⟨1, 8, [.nilFunc], .other⟩ (.node 69 ⟨5, 40, [.int .i64 0, .int .i64 0, .int .i64 0, .int .i64 0, .int .i64 0], (.struct [(0, 1), (1, 1), (2, 1), (3, 1), (4, 1)])⟩ (.node 65 ⟨4, 64, [.slice none 0 0, .slice none 0 0, .int .i64 0, .int .i64 0], (.struct [(0, 1), (1, 1), (2, 1), (3, 1)])⟩ (.node 63 ⟨1, 24, [.slice none 0 0], (.slice 70)⟩ (.node 62 ⟨1, 8, [.nilFunc], .other⟩ .nil .nil) (.node 64 ⟨1, 24, [.slice none 0 0], (.slice 71)⟩ .nil .nil)) (.node 68 ⟨1, 8, [.nilFunc], .other⟩ (.node 66 ⟨4, 64, [.slice none 0 0, .slice none 0 0, .int .i64 0, .int .i64 0], (.struct [(0, 1), (1, 1), (2, 1), (3, 1)])⟩ .nil .nil) .nil)) (.node 73 ⟨2, 16, [.int .i64 0, .int .i64 0], (.struct [(0, 1), (1, 1)])⟩ (.node 71 ⟨1, 24, [.slice none 0 0], (.slice 73)⟩ (.node 70 ⟨5, 40, [.int .i64 0, .int .i64 0, .int .i64 0, .int .i64 0, .int .i64 0], (.struct [(0, 1), (1, 1), (2, 1), (3, 1), (4, 1)])⟩ .nil .nil) (.node 72 ⟨2, 16, [.int .i64 0, .int .i64 0], (.struct [(0, 1), (1, 1)])⟩ .nil .nil)) (.node 75 ⟨1, 8, [.nilFunc], .other⟩ (.node 74 ⟨1, 8, [.nilFunc], .other⟩ .nil .nil) .nil))) (.node 84 ⟨4, 32, [.int .i64 0, .int .i64 0, .int .i64 0, .int .i64 0], (.struct [(0, 1), (1, 1), (2, 1), (3, 1)])⟩ (.node 80 ⟨5, 88, [.bool false, .slice none 0 0, .slice none 0 0, .slice none 0 0, .int .i64 0], (.struct [(0, 1), (1, 1), (2, 1), (3, 1), (4, 1)])⟩ (.node 78 ⟨1, 24, [.slice none 0 0], (.slice 38)⟩ (.node 77 ⟨1, 24, [.slice none 0 0], (.slice 84)⟩ .nil .nil) (.node 79 ⟨5, 88, [.bool false, .slice none 0 0, .slice none 0 0, .slice none 0 0, .int .i64 0], (.struct [(0, 1), (1, 1), (2, 1), (3, 1), (4, 1)])⟩ .nil .nil)) (.node 83 ⟨4, 32, [.int .i64 0, .int .i64 0, .int .i64 0, .int .i64 0], (.struct [(0, 1), (1, 1), (2, 1), (3, 1)])⟩ (.node 82 ⟨1, 8, [.nilFunc], .other⟩ .nil .nil) .nil)) (.node 87 ⟨1, 8, [.nilFunc], .other⟩ (.node 86 ⟨1, 8, [.nilFunc], .other⟩ (.node 85 ⟨1, 8, [.nilFunc], .other⟩ .nil .nil) .nil) (.node 89 ⟨1, 24, [.slice none 0 0], (.slice 93)⟩ (.node 88 ⟨1, 8, [.nilFunc], .other⟩ .nil .nil) .nil)))) (.node 104 ⟨2, 16, [.map none, .map none], (.struct [(0, 1), (1, 1)])⟩ (.node 98 ⟨5, 88, [.slice none 0 0, .bool false, .int .i64 0, .slice none 0 0, .slice none 0 0], (.struct [(0, 1), (1, 1), (2, 1), (3, 1), (4, 1)])⟩ (.node 95 ⟨1, 8, [.nilFunc], .other⟩ (.node 93 ⟨3, 32, [.int .i64 0, .int .i64 0, .string ⟨#[]⟩], (.struct [(0, 1), (1, 1), (2, 1)])⟩ (.node 92 ⟨3, 32, [.int .i64 0, .int .i64 0, .string ⟨#[]⟩], (.struct [(0, 1), (1, 1), (2, 1)])⟩ .nil .nil) (.node 94 ⟨1, 8, [.nilFunc], .other⟩ .nil .nil)) (.node 97 ⟨1, 24, [.slice none 0 0], (.slice 4)⟩ (.node 96 ⟨1, 8, [.nilFunc], .other⟩ .nil .nil) .nil)) (.node 101 ⟨1, 8, [.nilFunc], .other⟩ (.node 100 ⟨1, 8, [.nilFunc], .other⟩ (.node 99 ⟨5, 88, [.slice none 0 0, .bool false, .int .i64 0, .slice none 0 0, .slice none 0 0], (.struct [(0, 1), (1, 1), (2, 1), (3, 1), (4, 1)])⟩ .nil .nil) .nil) (.node 103 ⟨1, 8, [.map none], .other⟩ (.node 102 ⟨1, 8, [.map none], .other⟩ .nil .nil) .nil))) (.node 113 ⟨1, 24, [.slice none 0 0], (.slice 9)⟩ (.node 109 ⟨1, 8, [.nilFunc], .other⟩ (.node 107 ⟨2, 24, [.string ⟨#[]⟩, .int .i64 0], (.struct [(0, 1), (1, 1)])⟩ (.node 105 ⟨2, 16, [.map none, .map none], (.struct [(0, 1), (1, 1)])⟩ .nil .nil) (.node 108 ⟨2, 24, [.string ⟨#[]⟩, .int .i64 0], (.struct [(0, 1), (1, 1)])⟩ .nil .nil)) (.node 112 ⟨1, 8, [.nilFunc], .other⟩ (.node 111 ⟨1, 24, [.slice none 0 0], (.slice 32)⟩ .nil .nil) .nil)) (.node 116 ⟨1, 8, [.nilFunc], .other⟩ (.node 115 ⟨1, 8, [.map none], .other⟩ (.node 114 ⟨1, 8, [.nilFunc], .other⟩ .nil .nil) .nil) (.node 118 ⟨1, 8, [.pointer none], .other⟩ (.node 117 ⟨1, 8, [.nilFunc], .other⟩ .nil .nil) .nil)))))) (.node 173 ⟨1, 24, [.slice none 0 0], (.slice 201)⟩ (.node 146 ⟨1, 24, [.slice none 0 0], (.slice 145)⟩ (.node 133 ⟨2, 16, [.int .i64 0, .map none], (.struct [(0, 1), (1, 1)])⟩ (.node 126 ⟨8, 112, [.int .i64 0, .slice none 0 0, .map none, .map none, .map none, .map none, .slice none 0 0, .slice none 0 0], (.struct [(0, 1), (1, 1), (2, 1), (3, 1), (4, 1), (5, 1), (6, 1), (7, 1)])⟩ (.node 123 ⟨1, 8, [.map none], .other⟩ (.node 121 ⟨1, 8, [.map none], .other⟩ (.node 120 ⟨1, 8, [.nilFunc], .other⟩ .nil .nil) (.node 122 ⟨1, 8, [.map none], .other⟩ .nil .nil)) (.node 125 ⟨1, 24, [.slice none 0 0], (.slice 129)⟩ (.node 124 ⟨1, 8, [.map none], .other⟩ .nil .nil) .nil)) (.node 130 ⟨2, 16, [.int .i64 0, .int .i64 0], (.struct [(0, 1), (1, 1)])⟩ (.node 128 ⟨2, 16, [.int .i64 0, .int .i64 0], (.array 2 3)⟩ (.node 127 ⟨8, 112, [.int .i64 0, .slice none 0 0, .map none, .map none, .map none, .map none, .slice none 0 0, .slice none 0 0], (.struct [(0, 1), (1, 1), (2, 1), (3, 1), (4, 1), (5, 1), (6, 1), (7, 1)])⟩ .nil .nil) (.node 129 ⟨1, 24, [.slice none 0 0], (.slice 184)⟩ .nil .nil)) (.node 132 ⟨1, 8, [.pointer none], .other⟩ (.node 131 ⟨2, 16, [.int .i64 0, .int .i64 0], (.struct [(0, 1), (1, 1)])⟩ .nil .nil) .nil))) (.node 140 ⟨1, 8, [.map none], .other⟩ (.node 137 ⟨1, 24, [.slice none 0 0], (.slice 141)⟩ (.node 135 ⟨1, 24, [.slice none 0 0], (.slice 115)⟩ (.node 134 ⟨2, 16, [.int .i64 0, .map none], (.struct [(0, 1), (1, 1)])⟩ .nil .nil) (.node 136 ⟨1, 24, [.slice none 0 0], (.slice 138)⟩ .nil .nil)) (.node 139 ⟨1, 24, [.slice none 0 0], (.slice 146)⟩ (.node 138 ⟨1, 8, [.map none], .other⟩ .nil .nil) .nil)) (.node 143 ⟨2, 16, [.int .i64 0, .int .i64 0], (.struct [(0, 1), (1, 1)])⟩ (.node 142 ⟨2, 16, [.int .i64 0, .int .i64 0], (.struct [(0, 1), (1, 1)])⟩ (.node 141 ⟨1, 24, [.slice none 0 0], (.slice 143)⟩ .nil .nil) .nil) (.node 145 ⟨7, 56, [.int .i64 0, .int .i64 0, .int .i64 0, .int .i64 0, .int .i64 0, .int .i64 0, .int .i64 0], (.struct [(0, 1), (1, 1), (2, 1), (3, 1), (4, 1), (5, 1), (6, 1)])⟩ (.node 144 ⟨7, 56, [.int .i64 0, .int .i64 0, .int .i64 0, .int .i64 0, .int .i64 0, .int .i64 0, .int .i64 0], (.struct [(0, 1), (1, 1), (2, 1), (3, 1), (4, 1), (5, 1), (6, 1)])⟩ .nil .nil) .nil)))) (.node 159 ⟨1, 8, [.nilFunc], .other⟩ (.node 153 ⟨1, 8, [.nilFunc], .other⟩ (.node 150 ⟨1, 8, [.pointer none], .other⟩ (.node 148 ⟨1, 8, [.nilFunc], .other⟩ (.node 147 ⟨1, 8, [.nilFunc], .other⟩ .nil .nil) (.node 149 ⟨1, 8, [.nilFunc], .other⟩ .nil .nil)) (.node 152 ⟨1, 8, [.nilFunc], .other⟩ (.node 151 ⟨1, 8, [.nilFunc], .other⟩ .nil .nil) .nil)) (.node 156 ⟨5, 56, [.slice none 0 0, .int .i64 0, .int .i64 0, .bool false, .int .i64 0], (.struct [(0, 1), (1, 1), (2, 1), (3, 1), (4, 1)])⟩ (.node 155 ⟨1, 8, [.pointer none], .other⟩ (.node 154 ⟨1, 8, [.map none], .other⟩ .nil .nil) .nil) (.node 158 ⟨1, 8, [.map none], .other⟩ (.node 157 ⟨5, 56, [.slice none 0 0, .int .i64 0, .int .i64 0, .bool false, .int .i64 0], (.struct [(0, 1), (1, 1), (2, 1), (3, 1), (4, 1)])⟩ .nil .nil) .nil))) (.node 166 ⟨1, 16, [.nilIface], .other⟩ (.node 163 ⟨5, 32, [.int .i64 0, .int .i64 0, .bool false, .bool false, .int .i64 0], (.struct [(0, 1), (1, 1), (2, 1), (3, 1), (4, 1)])⟩ (.node 161 ⟨2, 32, [.pointer none, .slice none 0 0], (.struct [(0, 1), (1, 1)])⟩ (.node 160 ⟨1, 8, [.pointer none], .other⟩ .nil .nil) (.node 162 ⟨2, 32, [.pointer none, .slice none 0 0], (.struct [(0, 1), (1, 1)])⟩ .nil .nil)) (.node 165 ⟨1, 24, [.slice none 0 0], (.slice 164)⟩ (.node 164 ⟨5, 32, [.int .i64 0, .int .i64 0, .bool false, .bool false, .int .i64 0], (.struct [(0, 1), (1, 1), (2, 1), (3, 1), (4, 1)])⟩ .nil .nil) .nil)) (.node 170 ⟨1, 8, [.nilFunc], .other⟩ (.node 169 ⟨1, 8, [.nilFunc], .other⟩ (.node 167 ⟨1, 16, [.nilIface], .other⟩ .nil .nil) .nil) (.node 172 ⟨1, 8, [.nilFunc], .other⟩ (.node 171 ⟨1, 8, [.nilFunc], .other⟩ .nil .nil) .nil))))) (.node 201 ⟨1, 8, [.pointer none], .other⟩ (.node 187 ⟨1, 8, [.map none], .other⟩ (.node 181 ⟨2, 16, [.int .i64 0, .int .i64 0], (.struct [(0, 1), (1, 1)])⟩ (.node 178 ⟨1, 8, [.nilFunc], .other⟩ (.node 176 ⟨1, 8, [.nilFunc], .other⟩ (.node 175 ⟨1, 8, [.nilFunc], .other⟩ .nil .nil) (.node 177 ⟨1, 8, [.nilFunc], .other⟩ .nil .nil)) (.node 180 ⟨1, 8, [.nilFunc], .other⟩ (.node 179 ⟨1, 8, [.nilFunc], .other⟩ .nil .nil) .nil)) (.node 184 ⟨7, 56, [.int .i64 0, .int .i64 0, .int .i64 0, .int .i64 0, .int .i64 0, .int .i64 0, .int .i64 0], (.struct [(0, 1), (1, 1), (2, 1), (3, 1), (4, 1), (5, 2)])⟩ (.node 183 ⟨7, 56, [.int .i64 0, .int .i64 0, .int .i64 0, .int .i64 0, .int .i64 0, .int .i64 0, .int .i64 0], (.struct [(0, 1), (1, 1), (2, 1), (3, 1), (4, 1), (5, 2)])⟩ (.node 182 ⟨2, 16, [.int .i64 0, .int .i64 0], (.struct [(0, 1), (1, 1)])⟩ .nil .nil) .nil) (.node 186 ⟨1, 8, [.nilFunc], .other⟩ (.node 185 ⟨1, 8, [.nilFunc], .other⟩ .nil .nil) .nil))) (.node 194 ⟨3, 24, [.int .i64 0, .int .i64 0, .int .i64 0], (.struct [(0, 1), (1, 1), (2, 1)])⟩ (.node 191 ⟨1, 8, [.nilFunc], .other⟩ (.node 189 ⟨3, 56, [.slice none 0 0, .slice none 0 0, .map none], (.struct [(0, 1), (1, 1), (2, 1)])⟩ (.node 188 ⟨1, 24, [.slice none 0 0], (.slice 24)⟩ .nil .nil) (.node 190 ⟨3, 56, [.slice none 0 0, .slice none 0 0, .map none], (.struct [(0, 1), (1, 1), (2, 1)])⟩ .nil .nil)) (.node 193 ⟨3, 24, [.int .i64 0, .int .i64 0, .int .i64 0], (.struct [(0, 1), (1, 1), (2, 1)])⟩ (.node 192 ⟨1, 24, [.slice none 0 0], (.slice 194)⟩ .nil .nil) .nil)) (.node 198 ⟨1, 8, [.nilFunc], .other⟩ (.node 196 ⟨1, 8, [.int .u64 0], (.int .u64)⟩ (.node 195 ⟨1, 8, [.nilFunc], .other⟩ .nil .nil) .nil) (.node 200 ⟨1, 8, [.nilFunc], .other⟩ (.node 199 ⟨1, 8, [.pointer none], .other⟩ .nil .nil) .nil)))) (.node 217 ⟨1, 8, [.nilFunc], .other⟩ (.node 210 ⟨1, 8, [.nilFunc], .other⟩ (.node 205 ⟨1, 8, [.nilFunc], .other⟩ (.node 203 ⟨5, 64, [.int .i64 0, .int .i64 0, .string ⟨#[]⟩, .slice none 0 0, .int .i64 0], (.struct [(0, 3), (3, 1), (4, 1)])⟩ (.node 202 ⟨5, 64, [.int .i64 0, .int .i64 0, .string ⟨#[]⟩, .slice none 0 0, .int .i64 0], (.struct [(0, 3), (3, 1), (4, 1)])⟩ .nil .nil) (.node 204 ⟨1, 8, [.nilFunc], .other⟩ .nil .nil)) (.node 208 ⟨1, 4, [.int .u32 0], (.int .u32)⟩ (.node 207 ⟨1, 8, [.nilFunc], .other⟩ .nil .nil) .nil)) (.node 214 ⟨1, 8, [.nilFunc], .other⟩ (.node 213 ⟨1, 8, [.nilFunc], .other⟩ (.node 211 ⟨1, 8, [.int .u64 0], (.int .u64)⟩ .nil .nil) .nil) (.node 216 ⟨1, 8, [.nilFunc], .other⟩ (.node 215 ⟨1, 8, [.nilFunc], .other⟩ .nil .nil) .nil))) (.node 224 ⟨1, 1, [.int .u8 0], (.int .u8)⟩ (.node 221 ⟨0, 0, [], (.struct [(0, 0)])⟩ (.node 219 ⟨4, 40, [.pointer none, .pointer none, .pointer none, .string ⟨#[]⟩], (.struct [(0, 1), (1, 1), (2, 1), (3, 1)])⟩ (.node 218 ⟨4, 40, [.pointer none, .pointer none, .pointer none, .string ⟨#[]⟩], (.struct [(0, 1), (1, 1), (2, 1), (3, 1)])⟩ .nil .nil) (.node 220 ⟨0, 0, [], (.array 0 16)⟩ .nil .nil)) (.node 223 ⟨1, 1, [.int .u8 0], (.int .u8)⟩ (.node 222 ⟨0, 0, [], (.struct [(0, 0)])⟩ .nil .nil) .nil)) (.node 227 ⟨1, 4, [.int .i32 0], (.int .i32)⟩ (.node 226 ⟨1, 4, [.int .i32 0], (.int .i32)⟩ (.node 225 ⟨1, 8, [.nilFunc], .other⟩ .nil .nil) .nil) (.node 229 ⟨11, 48, [.int .u64 0, .int .u64 0, .int .u32 0, .int .u8 0, .int .u8 0, .int .u8 0, .int .u8 0, .nilFunc, .pointer none, .int .i32 0, .int .i32 0], (.struct [(0, 1), (1, 1), (2, 1), (3, 1), (4, 1), (5, 1), (6, 1), (7, 1), (8, 1), (9, 1), (10, 1)])⟩ (.node 228 ⟨11, 48, [.int .u64 0, .int .u64 0, .int .u32 0, .int .u8 0, .int .u8 0, .int .u8 0, .int .u8 0, .nilFunc, .pointer none, .int .i32 0, .int .i32 0], (.struct [(0, 1), (1, 1), (2, 1), (3, 1), (4, 1), (5, 1), (6, 1), (7, 1), (8, 1), (9, 1), (10, 1)])⟩ .nil .nil) .nil)))))))
set_option maxRecDepth 100000 in
theorem tabOkB : tab.okB Try.prog = true := by kernel_rfl
theorem tok : TabOk Try.prog tab := tab_ok tabOkB
end Go.Proofs.Ytdogdjcjmhogmaa
namespace Go.Proofs.Ytdogdjcjmhogmaa
open Go.RowKit
theorem nth {α : Type} {l : List α} {k : Nat} (h : k < l.length) : ∃ a, l[k]? = some a := ⟨_, List.getElem?_eq_getElem h⟩
def Cloned (e : TypeId) (n sz : Nat) (ts : List T) (r : AV) (hs : List Blk) : Prop := ∃ v, r = .own 0 v ∧ hs = [.row v e sz n ts]
set_option maxRecDepth 100000 in
set_option maxHeartbeats 1000000 in
theorem cloneInt_ag (l : List Int) (hl : l.length ≤ 1048576) : AG Try.prog 43 [.c (intRow l)] [] (Cloned 3 l.length 1 (l.flatMap intTs)) := by
  refine ag_enter (1) tok Try.func43 Try.ntmps43 Try.results43 rfl (by kernel_rfl) rfl fun F => ?_
  repeat (first | refine gG ?_ | refine zAp (fun _ => ?_))
  refine zNs (fun b hb => ?_)
  cases b
  · repeat (first | refine gX ?_ | refine zAp (fun _ => ?_))
    refine zBo (fun _ => ?_)
    repeat (first | refine gG ?_ | refine zAp (fun _ => ?_))
    refine zG ?_
    exact ⟨_, rfl, by simp only [List.nil_append, Nat.zero_add]⟩
  · have h0 := hb rfl
    have : l = [] := List.eq_nil_of_length_eq_zero h0
    subst this
    repeat (first | refine gO ?_ | refine ac_seq ?_ | refine ac_block ?_ | refine ac_region ?_ | refine ac_skip ?_ | refine zT ?_)
    refine x_own 2 3 1 rfl rfl rfl rfl rfl ?_
    repeat (first | refine gG ?_ | refine zAp (fun _ => ?_))
    refine zG ?_
    exact ⟨_, rfl, rfl⟩
theorem eqL_len {l r : List Int} (h : l.length ≠ r.length) : decide (l = r) = false := decide_eq_false fun e => h (by rw [e])
def eqAt (l r : List Int) (k : Nat) : Prop := l.take k = r.take k
set_option maxRecDepth 100000 in
set_option maxHeartbeats 1000000 in
theorem eqInt_af (l r : List Int) : AF Try.prog 14 [intRow l, intRow r] (· = .lit (.bool (decide (l = r)))) := by
  cases q1 : decide (((l.length : Nat) : Int) = ((r.length : Nat) : Int))
  · have q2 : (!decide (((l.length : Nat) : Int) = ((r.length : Nat) : Int))) = true := by rw [q1]; rfl
    have hne : l.length ≠ r.length := by have := of_decide_eq_false q1; omega
    have hf := eqL_len hne
    generalize decide (l = r) = z at *
    subst hf
    refine af_enter tok Try.func14 Try.ntmps14 Try.results14 rfl (by kernel_rfl) rfl rfl fun F hX => ?_
    repeat (first | refine gG ?_ | refine zN1 (fun hlen => ?_) | refine zN2 (fun hlen => ?_))
    first | refine zR ?_ | refine zQ ?_
    rfl
  · have q2 : (!decide (((l.length : Nat) : Int) = ((r.length : Nat) : Int))) = false := by rw [q1]; rfl
    have hlr : l.length = r.length := by have := of_decide_eq_true q1; omega
    refine af_enter tok Try.func14 Try.ntmps14 Try.results14 rfl (by kernel_rfl) rfl rfl fun F hX => ?_
    repeat (first | refine gG ?_ | refine zN1 (fun hlen => ?_) | refine zN2 (fun hlen => ?_))
    refine x_loop [4, 5, 13, 14, 15, 16, 17, 18, 19, 20, 21, 22, 23, 24, 25] (fun k : Nat => [(13, .c (.lit (.int .i64 (k : Nat))))]) (fun _ => []) (fun k => k ≤ l.length ∧ eqAt l r k) (fun k => l.length - k) 0 ⟨Nat.zero_le _, rfl⟩ ⟨rfl, trivial⟩ rfl ?_
    rintro k ⟨hk, hE⟩
    repeat (first | refine gG ?_ | refine zN1 (fun hlen => ?_) | refine zN2 (fun hlen => ?_))
    refine x_cond rfl (fun h => ?_) (fun h => ?_)
    · have hk' : k < l.length := by simpa using h
      have hk2 : k < r.length := by omega
      obtain ⟨a, ha⟩ := nth hk'
      obtain ⟨b, hb⟩ := nth hk2
      have hat := int_at ha
      have hbt := int_at hb
      cases d1 : decide (a = b)
      · have d2 : (!decide (a = b)) = true := by rw [d1]; rfl
        have hf : decide (l = r) = false := decide_eq_false fun e => by
          rw [e, hb] at ha
          injection ha with ha
          exact of_decide_eq_false d1 ha.symm
        clear h ha hb q1 q2 hE
        repeat (first | refine gG ?_ | refine zN1 (fun hlen => ?_) | refine zN2 (fun hlen => ?_))
        refine ac_draw [1, 1, 1, 1, 1, 1, 1, 1, 1] [0, 1, 2, 3, 4, 5, 6, 7, 8] (by kernel_rfl) (by kernel_rfl) ?_
        refine gW ?_
        apply w_q; (focus exact rfl); (focus exact rfl); focus (intro _; (refine zIx k hk' ?_); exact det_refl)
        apply w_q; (focus exact rfl); (focus exact rfl); focus (intro _; (refine zEl1 hat ?_); exact det_refl)
        refine gW ?_
        apply w_q; (focus exact rfl); (focus exact rfl); focus (intro _; (refine zIx k hk2 ?_); exact det_refl)
        apply w_q; (focus exact rfl); (focus exact rfl); focus (intro _; (refine zEl1 hbt ?_); exact det_refl)
        refine gW ?_
        refine w_nil ?_
        repeat (first | refine gG ?_ | refine zN1 (fun hlen => ?_) | refine zN2 (fun hlen => ?_))
        first | refine zR ?_ | refine zQ ?_
        rw [hf]; rfl
      · have d2 : (!decide (a = b)) = false := by rw [d1]; rfl
        have hE' : eqAt l r (k + 1) := by
          unfold eqAt at *
          rw [List.take_add_one, List.take_add_one, hE, ha, hb, of_decide_eq_true d1]
        clear h ha hb q1 q2 hE
        repeat (first | refine gG ?_ | refine zN1 (fun hlen => ?_) | refine zN2 (fun hlen => ?_))
        refine ac_draw [1, 1, 1, 1, 1, 1, 1, 1, 1] [0, 1, 2, 3, 4, 5, 6, 7, 8] (by kernel_rfl) (by kernel_rfl) ?_
        refine gW ?_
        apply w_q; (focus exact rfl); (focus exact rfl); focus (intro _; (refine zIx k hk' ?_); exact det_refl)
        apply w_q; (focus exact rfl); (focus exact rfl); focus (intro _; (refine zEl1 hat ?_); exact det_refl)
        refine gW ?_
        apply w_q; (focus exact rfl); (focus exact rfl); focus (intro _; (refine zIx k hk2 ?_); exact det_refl)
        apply w_q; (focus exact rfl); (focus exact rfl); focus (intro _; (refine zEl1 hbt ?_); exact det_refl)
        refine gW ?_
        refine w_nil ?_
        repeat (first | refine gG ?_ | refine zN1 (fun hlen => ?_) | refine zN2 (fun hlen => ?_))
        exact ⟨k + 1, ⟨hk', hE'⟩, by omega, x_wkd 0 ⟨rfl, trivial⟩ rfl (by repeat (first | exact ag_refl | refine ag_upd rfl ?_ | refine ag_at rfl rfl ?_))⟩
    · have hk' : k = l.length := by
        have : ¬ k < l.length := by simpa using h
        omega
      subst hk'
      have hf : decide (l = r) = true := decide_eq_true (by
        unfold eqAt at hE
        rwa [List.take_length, hlr, List.take_length] at hE)
      clear h hE q1 q2
      repeat (first | refine gG ?_ | refine zN1 (fun hlen => ?_) | refine zN2 (fun hlen => ?_))
      first | refine zR ?_ | refine zQ ?_
      rw [hf]; rfl
end Go.Proofs.Ytdogdjcjmhogmaa
namespace Go.Proofs.Ytdogdjcjmhogmaa
open Go.RowKit
theorem keyRI {P : Program} {kT : TypeId} (hk : P.underlying kT = some (.int .i64)) : KeyR P kT (Value.int .i64) := by
  refine ⟨fun em w a => MapKept.run_checkKey hk ((keyInt .i64).is a) em 9999, fun w k l es h => ?_, fun w a => run_stays ((keyInt .i64).is a) w⟩
  rcases find_keys (keyInt .i64) k l es 0 h with ⟨f1, f2, f3⟩ | ⟨j, e, t, f1, f2, f3, f4, f5⟩
  · rcases find_del (keyInt .i64) k l es 0 h with ⟨_, g2⟩ | ⟨j, e', g1, g2, g3⟩
    · exact .inl ⟨MapKept.run_findKey hk f1, f2, f3, g2⟩
    · rw [f1] at g1; cases g1
  · rcases find_del (keyInt .i64) k l es 0 h with ⟨g1, _⟩ | ⟨j', e', g1, g2, g3⟩
    · rw [f1] at g1; cases g1
    · rw [f1] at g1
      have hjj : j' = j := by injection g1 with g1; injection g1 with g1; injection g1 with g1 _; omega
      subst hjj
      exact .inr ⟨j', e, t, MapKept.run_findKey hk (by simpa using f1), f2, f3, f4, f5, g3⟩
abbrev pI : Int × Int → Value := pairV (Value.int .i64)
theorem keySpot : KeyR Try.prog 131 pI := keySt (e := 3) (by kernel_rfl) (cellI (by kernel_rfl))
theorem keyWay : KeyR Try.prog 128 pI := keyArr (e := 3) (by kernel_rfl) (cellI (by kernel_rfl))
theorem keyNum : KeyR Try.prog 3 (Value.int .i64) := keyRI (by kernel_rfl)
@[reducible] def iL (z : Int) : T := .lit (.int .i64 z)
@[reducible] def elTs (x : El) : List T := [iL x.kind, iL x.who, iL x.src, iL x.seq, iL x.n, iL x.node, iL x.turn]
def goTs (x : Int × Int) : List T := [iL x.1, iL x.2]
structure Fx where
  b : Nat
  bb : Nat
  bs : Nat
  bi : Nat
  bw : Nat
  nd : Nat
  nA : Nat
  va : Value
  vw : Value
  vg : Value
  ib : Int × Int → Nat × Nat
structure Ws where
  at_ : List Int
  bel : Int → Int → Int × Int
  nxt : Int → Int → Int
  sto : Int → Int → List (Int × Int)
  seqs : List ((Int × Int) × Int)
  ways : List ((Int × Int) × (Value × List El))
  wait : List (Value × List El)
  got : List (Value × List (Int × Int))
def bare (W : List ((Int × Int) × (Value × List El))) : List ((Int × Int) × List El) := W.map fun p => (p.1, p.2.2)
def Ws.z (w : Ws) : Zt := ⟨w.at_, w.bel, w.nxt, w.sto, w.seqs, bare w.ways, w.wait.map (·.2), w.got.map (·.2)⟩
/-- all nodes for the first actor, all nodes for the next one, .. -/
def keysE (nA nd : Nat) : List (Int × Int) := (List.range nA).flatMap fun w => (List.range nd).map fun i => (((i + 1 : Nat) : Int), ((w : Nat) : Int))
def tabK (f : Int × Int → T) (ks : List (Int × Int)) : List ((Int × Int) × T) := ks.map fun k => (k, f k)
def belT (b : Int → Int → Int × Int) (k : Int × Int) : T := .agg [iL (b k.1 k.2).1, iL (b k.1 k.2).2]
def ibT (f : Int × Int → Nat × Nat) (k : Int × Int) : T := .lit (.pointer (some ⟨(f k).1, 0, none⟩))
@[reducible] def wB (x : Fx) : Blk := .box x.b 127 [.c (iL x.nd), .own 1 x.va, .own 2 (.map (some x.bb)), .own 3 (.map (some x.bs)), .own 4 (.map (some x.bi)), .own 5 (.map (some x.bw)), .own 6 x.vw, .own 7 x.vg]
@[reducible] def atB (x : Fx) (l : List Int) : Blk := .row x.va 3 1 l.length (l.flatMap intTs)
@[reducible] def belB (x : Fx) (f : Int → Int → Int × Int) : Blk := .mp x.bb (mkeys pI (tabK (belT f) (keysE x.nA x.nd)))
@[reducible] def seqB (x : Fx) (S : List ((Int × Int) × Int)) : Blk := .mp x.bs (mkeys pI (mapT iL S))
@[reducible] def ibB (x : Fx) : Blk := .mp x.bi (mkeys pI (tabK (ibT x.ib) (keysE x.nA x.nd)))
def litV {α : Type} (p : Value × α) : T := .lit p.1
@[reducible] def wayB (x : Fx) (W : List ((Int × Int) × (Value × List El))) : Blk := .mp x.bw (mkeys pI (mapT litV W))
def litL {α : Type} (S : List (Value × α)) : List T := S.map litV
@[reducible] def waB (x : Fx) (S : List (Value × List El)) : Blk := .row x.vw 129 1 S.length (litL S)
@[reducible] def goB (x : Fx) (S : List (Value × List (Int × Int))) : Blk := .row x.vg 71 1 S.length (litL S)
@[reducible] def elR (p : Value × List El) : Blk := .row p.1 184 7 p.2.length (p.2.flatMap elTs)
@[reducible] def goR (p : Value × List (Int × Int)) : Blk := .row p.1 73 2 p.2.length (p.2.flatMap goTs)
@[reducible] def inR (x : Fx) (f : Int → Int → Int) (k : Int × Int) : Blk := .box (x.ib k).1 134 [.c (iL (f k.1 k.2)), .own 9 (.map (some (x.ib k).2))]
@[reducible] def stR (x : Fx) (f : Int → Int → List (Int × Int)) (k : Int × Int) : Blk := .mp (x.ib k).2 (mkeys (Value.int .i64) (mapT iL (f k.1 k.2)))
@[reducible] def hdB (x : Fx) (w : Ws) : List Blk := [wB x, atB x w.at_, belB x w.bel, seqB x w.seqs, ibB x, wayB x w.ways, waB x w.wait, goB x w.got]
def wayR (p : (Int × Int) × (Value × List El)) : Blk := elR p.2
/-- all blocks of a world -/
@[reducible] def allB (x : Fx) (w : Ws) : List Blk := hdB x w ++ (w.ways.map wayR ++ (w.wait.map elR ++ (w.got.map goR ++ ((keysE x.nA x.nd).map (inR x w.nxt) ++ (keysE x.nA x.nd).map (stR x w.sto)))))

theorem isNode_ag (x : Fx) (i : Int) : AG Try.prog 73 [.ptr 0 x.b 0, .c (iL i)] [wB x] (fun r hs => r = .c (.lit (.bool (decide (isN x.nd i)))) ∧ hs = [wB x]) := by
  have hd : decide (isN x.nd i) = (decide (i ≥ 1) && decide (i ≤ (x.nd : Int))) := by
    rw [Bool.eq_iff_iff, decide_eq_true_iff]; unfold isN; simp
  rw [hd]
  cases d0 : decide (i ≥ 1) <;>
  · refine ag_enter (1) tok Try.func73 Try.ntmps73 Try.results73 rfl (by kernel_rfl) rfl fun F => ?_
    repeat (first | refine gG ?_)
    refine zG ?_
    exact ⟨rfl, rfl⟩
theorem isWho_ag (x : Fx) (l : List Int) (i : Int) : AG Try.prog 74 [.ptr 0 x.b 0, .c (iL i)] [wB x, atB x l] (fun r hs => r = .c (.lit (.bool (decide (isW l.length i)))) ∧ hs = [wB x, atB x l]) := by
  have hd : decide (isW l.length i) = (decide (i ≥ 0) && decide (i < (l.length : Int))) := by
    rw [Bool.eq_iff_iff, decide_eq_true_iff]; unfold isW; simp
  rw [hd]
  cases d0 : decide (i ≥ 0) <;>
  · refine ag_enter (2) tok Try.func74 Try.ntmps74 Try.results74 rfl (by kernel_rfl) rfl fun F => ?_
    repeat (first | refine gG ?_ | refine zN1 (fun hlen => ?_) | refine zN2 (fun hlen => ?_))
    refine zG ?_
    exact ⟨rfl, rfl⟩
theorem gcase {α β : Type} [DecidableEq α] (k : α) : ∀ W : List (α × β), (gget k W = none ∧ ∀ b, gput k b W = W ++ [(k, b)]) ∨ ∃ j b, gget k W = some b ∧ W[j]? = some (k, b) ∧ ∀ b', gput k b' W = W.set j (k, b')
  | [] => .inl ⟨rfl, fun _ => rfl⟩
  | (k', b') :: W => by
    by_cases h : k = k'
    · subst h
      exact .inr ⟨0, b', by simp [gget], rfl, fun b => by simp [gput]⟩
    · rcases gcase k W with ⟨h1, h2⟩ | ⟨j, b, h1, h2, h3⟩
      · exact .inl ⟨by simp [gget, h, h1], fun b => by simp [gput, h, h2]⟩
      · exact .inr ⟨j + 1, b, by simp [gget, h, h1], by simpa using h2, fun b => by simp [gput, h, h3]⟩
def wayL (k : Int × Int) (W : List ((Int × Int) × (Value × List El))) : List El := ((gget k W).map (·.2)).getD []
theorem way_new (k : Int × Int) (v : Value) (l : List El) (W : List ((Int × Int) × (Value × List El))) : W.map wayR ++ [elR (v, l)] = (W ++ [(k, (v, l))]).map wayR := by simp [wayR]
theorem way_set (k : Int × Int) (v : Value) (l : List El) (W : List ((Int × Int) × (Value × List El))) (j : Nat) : (W.map wayR).set j (elR (v, l)) = (W.set j (k, (v, l))).map wayR := by rw [List.map_set]; rfl
theorem hd_tail {x : Fx} {w : Ws} {L L' : List Blk} (h : L = L') : hdB x w ++ L = hdB x w ++ L' := by rw [h]
theorem el_snoc (l : List El) (x : El) : l.flatMap elTs ++ elTs x = (l ++ [x]).flatMap elTs := by rw [List.flatMap_append]; simp
set_option maxRecDepth 100000 in
set_option maxHeartbeats 4000000 in
theorem push_ag (x : Fx) (w : Ws) (a c : Int) (y : El) (hb : (wayL (a, c) w.ways).length ≤ 1000000) : AG Try.prog 76 [.ptr 0 x.b 0, .c (iL a), .c (iL c), .c (.agg (elTs y))] (hdB x w ++ w.ways.map wayR) (fun _ hs => ∃ v', hs = hdB x { w with ways := gput (a, c) (v', wayL (a, c) w.ways ++ [y]) w.ways } ++ (gput (a, c) (v', wayL (a, c) w.ways ++ [y]) w.ways).map wayR) := by
  unfold wayL at hb ⊢
  obtain ⟨at_, bel, nxt, sto, seqs, W, wait, got⟩ := w
  dsimp only at hb ⊢
  have hgT := mget_T litV (a, c) W
  have hpT := fun b => mput_T litV (a, c) b W
  rcases gcase (a, c) W with ⟨h1, h2⟩ | ⟨j, ⟨v, l⟩, h1, h2, h3⟩
  · rw [h1] at hgT ⊢
    have hlk : (mget (a, c) (mapT litV W)).getD (.lit (.slice none 0 0)) = .lit (.slice none 0 0) := by rw [hgT]; rfl
    have hpt : ∀ v', mput (a, c) (.lit v') (mapT litV W) = mapT litV (W ++ [((a, c), (v', [y]))]) := fun v' => by
      have := hpT (v', [y])
      rw [h2] at this
      exact this
    simp only [Option.map_none, Option.getD_none, List.nil_append, h2]
    clear hgT hpT h1 h2 hb
    refine ag_enter (8 + (W.length + 1)) tok Try.func76 Try.ntmps76 Try.results76 rfl (by kernel_rfl) rfl fun F => ?_
    repeat (first | refine gG ?_ | refine zBf ?_ | refine zAp (fun _ => ?_))
    refine ac_drawT [0, 0, 0, 3, 0, 0, 0, 1, 1, 1, 1, 1, 1, 1, 1, 1, 1, 2, 2] (.fork [0, 1, 2, 4, 5, 6, 7, 8, 9, 10, 11, 12, 13, 14, 15, 16] 3 (.fin [17, 18]) 17 (.fin [3, 18])) (by kernel_rfl) (by kernel_rfl) ?_
    refine wt_fork ?_
    refine gW ?_
    apply w_p; (focus exact rfl); (focus exact rfl); focus (intro _; (refine zBda ?_); exact det_refl)
    refine gW ?_
    apply w_q; (focus exact rfl); (focus exact rfl); focus (intro _; (refine zBda ?_); exact det_refl)
    apply w_q; (focus exact rfl); (focus exact rfl); focus (intro _; (refine zLkr 129 keyWay (a, c) hlk ?_); exact det_refl)
    refine gW ?_
    refine w_nil ?_
    refine ⟨?_, ?_⟩
    · apply w_a; (focus exact rfl); (focus exact rfl); refine zL1 ⟨⟨[], (List.append_nil _).symm⟩, ?_⟩
      refine w_nil ?_
      refine wt_fin ?_
      apply w_l; (focus exact rfl); (focus exact rfl); (refine zApN (fun v' => ?_))
      apply w_l; (focus exact rfl); (focus exact rfl); (refine zUprS 129 keyWay (a, c) (hpt _) ?_)
      refine w_nil ?_
      refine zGS ?_ ⟨v', rfl⟩
      refine (List.take_of_length_le (by simp; omega)).trans ?_
      exact hd_tail (x := x) (w := ⟨at_, bel, nxt, sto, seqs, W ++ [((a, c), (v', [y]))], wait, got⟩) (way_new (a, c) v' [y] W)
          
    · apply w_l; (focus exact rfl); (focus exact rfl); (refine zApN (fun v' => ?_))
      refine w_nil ?_
      refine wt_fin ?_
      apply w_a; (focus exact rfl); (focus exact rfl); refine zL1 ⟨⟨[], (List.append_nil _).symm⟩, ?_⟩
      apply w_l; (focus exact rfl); (focus exact rfl); (refine zUprS 129 keyWay (a, c) (hpt _) ?_)
      refine w_nil ?_
      refine zGS ?_ ⟨v', rfl⟩
      refine (List.take_of_length_le (by simp; omega)).trans ?_
      exact hd_tail (x := x) (w := ⟨at_, bel, nxt, sto, seqs, W ++ [((a, c), (v', [y]))], wait, got⟩) (way_new (a, c) v' [y] W)
          
  · rw [h1] at hgT ⊢
    have hlk : (mget (a, c) (mapT litV W)).getD (.lit (.slice none 0 0)) = .lit v := by rw [hgT]; rfl
    have hpt : ∀ v', mput (a, c) (.lit v') (mapT litV W) = mapT litV (W.set j ((a, c), (v', l ++ [y]))) := fun v' => by
      have := hpT (v', l ++ [y])
      rw [h3] at this
      exact this
    simp only [Option.map_some, Option.getD_some, h3]
    rw [h1] at hb
    dsimp only [Option.map_some, Option.getD_some] at hb
    have hjl : j < W.length := (List.getElem?_eq_some_iff.1 h2).1
    have hrow : ∀ r, (hdB x ⟨at_, bel, nxt, sto, seqs, W, wait, got⟩ ++ W.map wayR ++ r)[j + 8]? = some (elR (v, l)) := fun r => by
      show (W.map wayR ++ r)[j]? = _
      rw [List.getElem?_append_left (by simpa using hjl), List.getElem?_map, h2]
      rfl
    have hrow0 : (hdB x ⟨at_, bel, nxt, sto, seqs, W, wait, got⟩ ++ W.map wayR)[j + 8]? = some (elR (v, l)) := by simpa using hrow []
    clear hgT hpT h1 h2
    refine ag_enter (8 + W.length) tok Try.func76 Try.ntmps76 Try.results76 rfl (by kernel_rfl) rfl fun F => ?_
    repeat (first | refine gG ?_ | refine zBf ?_ | refine zAp (fun _ => ?_))
    refine ac_drawT [0, 0, 0, 3, 0, 0, 0, 1, 1, 1, 1, 1, 1, 1, 1, 1, 1, 2, 2] (.fork [0, 1, 2, 4, 5, 6, 7, 8, 9, 10, 11, 12, 13, 14, 15, 16] 3 (.fin [17, 18]) 17 (.fin [3, 18])) (by kernel_rfl) (by kernel_rfl) ?_
    refine wt_fork ?_
    refine gW ?_
    apply w_p; (focus exact rfl); (focus exact rfl); focus (intro _; (refine zBda ?_); exact det_refl)
    refine gW ?_
    apply w_q; (focus exact rfl); (focus exact rfl); focus (intro _; (refine zBda ?_); exact det_refl)
    apply w_q; (focus exact rfl); (focus exact rfl); focus (intro _; (refine lo_as (j + 8) (zLkr 129 keyWay (a, c) hlk ⟨_, _, _, _, _, rfl, hrow _, ?_⟩)); exact det_refl)
    refine gW ?_
    refine w_nil ?_
    refine ⟨?_, ?_⟩
    · apply w_a; (focus exact rfl); (focus exact rfl); refine zL1 ⟨⟨[], (List.append_nil _).symm⟩, ?_⟩
      refine w_nil ?_
      refine wt_fin ?_
      apply w_l; (focus exact rfl); (focus exact rfl); (refine zApS (fun v' => ?_) tok rfl hrow0)
      apply w_l; (focus exact rfl); (focus exact rfl); (refine zUprS 129 keyWay (a, c) (hpt _) ?_)
      refine w_nil ?_
      refine zGS ?_ ⟨v', rfl⟩
      refine (List.take_of_length_le (by simp; omega)).trans ?_
      refine Eq.trans ?_ (hd_tail (x := x) (w := ⟨at_, bel, nxt, sto, seqs, W.set j ((a, c), (v', l ++ [y])), wait, got⟩) (way_set (a, c) v' (l ++ [y]) W j))
      rw [elR, ← el_snoc, List.length_append]
      rfl
          
    · apply w_l; (focus exact rfl); (focus exact rfl); (refine zApS (fun v' => ?_) tok rfl hrow0)
      refine w_nil ?_
      refine wt_fin ?_
      apply w_a; (focus exact rfl); (focus exact rfl); refine zL1 ⟨⟨[], (List.append_nil _).symm⟩, ?_⟩
      apply w_l; (focus exact rfl); (focus exact rfl); (refine zUprS 129 keyWay (a, c) (hpt _) ?_)
      refine w_nil ?_
      refine zGS ?_ ⟨v', rfl⟩
      refine (List.take_of_length_le (by simp; omega)).trans ?_
      refine Eq.trans ?_ (hd_tail (x := x) (w := ⟨at_, bel, nxt, sto, seqs, W.set j ((a, c), (v', l ++ [y])), wait, got⟩) (way_set (a, c) v' (l ++ [y]) W j))
      rw [elR, ← el_snoc, List.length_append]
      rfl
end Go.Proofs.Ytdogdjcjmhogmaa
namespace Go.Proofs.Ytdogdjcjmhogmaa
open Go.RowKit
theorem tabK_get (f : Int × Int → T) (k : Int × Int) : ∀ {ks : List (Int × Int)}, k ∈ ks → mget k (tabK f ks) = some (f k)
  | [], h => by cases h
  | k' :: ks, h => by
    show mget k ((k', f k') :: tabK f ks) = _
    unfold mget
    by_cases hk : k = k'
    · simp [hk]
    · rw [if_neg hk]
      exact tabK_get f k (by rcases List.mem_cons.1 h with h | h; exact absurd h hk; exact h)
theorem keysE_mem {nA nd : Nat} {i w : Int} (hi : isN nd i) (hw : isW nA w) : (i, w) ∈ keysE nA nd := by
  unfold isN at hi
  unfold isW at hw
  refine List.mem_flatMap.2 ⟨w.toNat, List.mem_range.2 (by omega), List.mem_map.2 ⟨i.toNat - 1, List.mem_range.2 (by omega), ?_⟩⟩
  exact Prod.ext (by show ((i.toNat - 1 + 1 : Nat) : Int) = i; omega) (by show ((w.toNat : Nat) : Int) = w; omega)
@[reducible] def inV (x : Fx) (k : Int × Int) (n : Int) : Blk := .box (x.ib k).1 134 [.c (iL n), .own 9 (.map (some (x.ib k).2))]
@[reducible] def stV (x : Fx) (k : Int × Int) (s : List (Int × Int)) : Blk := .mp (x.ib k).2 (mkeys (Value.int .i64) (mapT iL s))
/-- a letter that came before -/
theorem recv_old (x : Fx) (w : Ws) (y : El) (k : Int × Int) (hk : k = (y.src, y.who)) (hm : k ∈ keysE x.nA x.nd) (n : Int) (hn : y.seq < n) (s : List (Int × Int)) (q : Value × List (Int × Int)) : AG Try.prog 90 [.ptr 0 x.b 0, .c (.agg (elTs y))] (hdB x w ++ [inV x k n, stV x k s, goR q]) (fun _ hs => hs = hdB x w ++ [inV x k n, stV x k s, goR q]) := by
  have hlk : (mget (y.src, y.who) (tabK (ibT x.ib) (keysE x.nA x.nd))).getD (.lit (.pointer none)) = .lit (.pointer (some ⟨(x.ib k).1, 0, none⟩)) := by rw [← hk, tabK_get _ _ hm]; rfl
  have d0 : decide (y.seq < n) = true := decide_eq_true hn
  refine ag_enter (11) tok Try.func90 Try.ntmps90 Try.results90 rfl (by kernel_rfl) rfl fun F => ?_
  repeat (first | refine gG ?_ | refine zBf ?_ | refine zAp (fun _ => ?_))
  refine ac_draw [1, 1, 1, 1, 1, 1, 1, 1, 1, 1, 1] [0, 1, 2, 3, 4, 5, 6, 7, 8, 9, 10] (by kernel_rfl) (by kernel_rfl) ?_
  refine gW ?_
  apply w_q; (focus exact rfl); (focus exact rfl); focus (intro _; (refine lo_asp 8 (zLkr 132 keySpot (y.src, y.who) hlk ⟨_, _, rfl, ?_⟩)); exact det_refl)
  refine gW ?_
  refine w_nil ?_
  repeat (first | refine gG ?_ | refine zBx (fun _ => ?_) | refine zAp (fun _ => ?_))
  refine ac_draw [1, 1, 1, 1, 1, 1, 1] [0, 1, 2, 3, 4, 5, 6] (by kernel_rfl) (by kernel_rfl) ?_
  refine gW ?_
  refine w_nil ?_
  repeat (first | refine gG ?_ | refine zBx (fun _ => ?_) | refine zAp (fun _ => ?_))
  refine zGS ?_ rfl
  rfl
theorem go_snoc (l : List (Int × Int)) (p : Int × Int) : l.flatMap goTs ++ goTs p = (l ++ [p]).flatMap goTs := by rw [List.flatMap_append]; simp
theorem litL_at {α : Type} {S : List (Value × α)} {i : Nat} {q : Value × α} (h : S[i]? = some q) : (litL S)[i * 1]? = some (.lit q.1) := by
  unfold litL
  rw [Nat.mul_one, List.getElem?_map, h]; rfl
theorem litL_len {α : Type} (S : List (Value × α)) : (litL S).length = S.length := by simp [litL]
theorem litL_set {α : Type} (S : List (Value × α)) (i : Nat) (q : Value × α) : (litL S).set (i * 1) (.lit q.1) = litL (S.set i q) := by
  unfold litL
  rw [Nat.mul_one, List.map_set]; rfl
def GotR (x : Fx) (w : Ws) (k : Int × Int) (i : Nat) (n : Int) (s : List (Int × Int)) (l : List (Int × Int)) (hs : List Blk) : Prop := ∃ v', hs = hdB x { w with got := w.got.set i (v', l) } ++ [inV x k n, stV x k s, goR (v', l)]
set_option maxRecDepth 100000 in
set_option maxHeartbeats 8000000 in
/-- a letter that is new -/
theorem recv_new (x : Fx) (w : Ws) (y : El) (k : Int × Int) (hk : k = (y.src, y.who)) (hm : k ∈ keysE x.nA x.nd) (n : Int) (s : List (Int × Int)) (v : Value) (l : List (Int × Int)) (i : Nat) (hi : y.who = (i : Int)) (hg : w.got[i]? = some (v, l))
    (hn : n ≤ y.seq) (hn0 : -1000000000000 ≤ n) (hb1 : n + (s.length + 1 : Nat) ≤ 1000000000000) (hb2 : l.length + s.length + 1 ≤ 1000000000000) :
    AG Try.prog 90 [.ptr 0 x.b 0, .c (.agg (elTs y))] (hdB x w ++ [inV x k n, stV x k s, goR (v, l)]) (fun _ hs =>
      GotR x w k i (drain (gput y.seq y.n s).length n (gput y.seq y.n s)).1 (drain (gput y.seq y.n s).length n (gput y.seq y.n s)).2.1 (l ++ (drain (gput y.seq y.n s).length n (gput y.seq y.n s)).2.2.map (y.src, ·)) hs) := by
  obtain ⟨yk, yw, ys, yq, yn, yo, yt⟩ := y
  dsimp only at hi hk hn ⊢
  subst hi
  have hlk : (mget (ys, (i : Int)) (tabK (ibT x.ib) (keysE x.nA x.nd))).getD (.lit (.pointer none)) = .lit (.pointer (some ⟨(x.ib k).1, 0, none⟩)) := by rw [← hk, tabK_get _ _ hm]; rfl
  have d0 : decide (yq < n) = false := decide_eq_false (by omega)
  have hpt := mput_T iL yq yn s
  have hsl := gput_len (k := yq) (b := yn) (l := s)
  have hil : i < w.got.length := (List.getElem?_eq_some_iff.1 hg).1
  have hw0 : w.got.set i (v, l) = w.got := by
    obtain ⟨_, h⟩ := List.getElem?_eq_some_iff.1 hg
    rw [← h]; exact List.set_getElem_self _
  generalize gput yq yn s = s1 at *
  refine ag_enter (11) tok Try.func90 Try.ntmps90 Try.results90 rfl (by kernel_rfl) rfl fun F => ?_
  repeat (first | refine gG ?_ | refine zBf ?_ | refine zAp (fun _ => ?_))
  refine ac_draw [1, 1, 1, 1, 1, 1, 1, 1, 1, 1, 1] [0, 1, 2, 3, 4, 5, 6, 7, 8, 9, 10] (by kernel_rfl) (by kernel_rfl) ?_
  refine gW ?_
  apply w_q; (focus exact rfl); (focus exact rfl); focus (intro _; (refine lo_asp 8 (zLkr 132 keySpot (ys, (i : Int)) hlk ⟨_, _, rfl, ?_⟩)); exact det_refl)
  refine gW ?_
  refine w_nil ?_
  repeat (first | refine gG ?_ | refine zBx (fun _ => ?_) | refine zAp (fun _ => ?_))
  refine ac_draw [1, 1, 1, 1, 1, 1, 1] [0, 1, 2, 3, 4, 5, 6] (by kernel_rfl) (by kernel_rfl) ?_
  refine gW ?_
  refine w_nil ?_
  repeat (first | refine gG ?_ | refine zBx (fun _ => ?_) | refine zAp (fun _ => ?_))
  refine ac_draw [1, 1, 1, 1, 1, 1, 1, 1, 2] [0, 1, 2, 3, 4, 5, 6, 7, 8] (by kernel_rfl) (by kernel_rfl) ?_
  refine gW ?_
  apply w_l; (focus exact rfl); (focus exact rfl); (refine zUprS 3 keyNum yq hpt ?_)
  refine w_nil ?_
  repeat (first | refine ac_seq ?_ | refine ac_block ?_)
  refine x_loop [5, 6, 32, 33, 34, 35, 36, 37, 38, 39, 40, 41, 42, 43, 44, 45, 46, 47, 48, 49, 50, 51, 52, 53, 54, 55, 56, 57, 58, 59, 60, 61, 62, 63, 64, 65, 66, 67, 68, 69, 70, 71, 72, 73, 74, 75, 76, 77, 78, 79, 80, 81] (fun _ : Nat × Int × List (Int × Int) × Value × List (Int × Int) => []) (fun q => hdB x { w with got := w.got.set i (q.2.2.2.1, q.2.2.2.2) } ++ [inV x k q.2.1, stV x k q.2.2.1, goR (q.2.2.2.1, q.2.2.2.2)])
    (fun q => q.2.2.1.length ≤ q.1 ∧ (drain q.1 q.2.1 q.2.2.1).1 = (drain s1.length n s1).1 ∧ (drain q.1 q.2.1 q.2.2.1).2.1 = (drain s1.length n s1).2.1 ∧ q.2.2.2.2 ++ (drain q.1 q.2.1 q.2.2.1).2.2.map (ys, ·) = l ++ (drain s1.length n s1).2.2.map (ys, ·) ∧ -1000000000000 ≤ q.2.1 ∧ q.2.1 + (q.2.2.1.length : Nat) ≤ 1000000000000 ∧ q.2.2.2.2.length + q.2.2.1.length ≤ 1000000000000)
    (fun q => q.2.2.1.length) (s1.length, n, s1, v, l) ⟨Nat.le_refl _, rfl, rfl, rfl, hn0, by dsimp only; omega, by dsimp only; omega⟩ trivial (by dsimp only; rw [hw0]; rfl) ?_
  rintro ⟨f, n', s', v', l'⟩ ⟨hf, h1, h2, h3, h4, h5, h6⟩
  dsimp only at hf h1 h2 h3 h4 h5 h6 ⊢
  have hgT := mget_T iL n' s'
  cases hgn : gget n' s' with
  | none =>
    rw [hgn] at hgT
    have hdr : drain f n' s' = (n', s', []) := by
      cases f with
      | zero => rfl
      | succ f => unfold drain; rw [hgn]
    have hlk2 : (mget n' (mapT iL s')).getD (.lit (.int .i64 0)) = .lit (.int .i64 0) := by rw [hgT]; rfl
    have hlk3 : (mget n' (mapT iL s')).isSome = false := by rw [hgT]; rfl
    rw [hdr] at h1 h2 h3
    dsimp only at h1 h2 h3
    rw [List.map_nil, List.append_nil] at h3
    repeat (first | refine gG ?_ | refine zBx (fun _ => ?_) | refine zAp (fun _ => ?_))
    refine ac_draw [1, 1, 1, 1, 1, 1, 1, 1, 1, 1, 1, 1, 1, 1] [0, 1, 2, 3, 4, 5, 6, 7, 8, 9, 10, 11, 12, 13] (by kernel_rfl) (by kernel_rfl) ?_
    refine gW ?_
    apply w_q; (focus exact rfl); (focus exact rfl); focus (intro _; (refine zLkro 3 keyNum n' hlk2 hlk3 ?_); exact det_refl)
    refine gW ?_
    refine w_nil ?_
    repeat (first | refine gG ?_ | refine zBx (fun _ => ?_) | refine zAp (fun _ => ?_))
    refine zGS ?_ ⟨v', rfl⟩
    rw [← h1, ← h2, ← h3]
    rfl
  | some v0 =>
    rw [hgn] at hgT
    have hdl := gdel_len (k := n') (l := s') (by rw [hgn]; rfl)
    obtain ⟨f, rfl⟩ : ∃ f', f = f' + 1 := ⟨f - 1, by omega⟩
    have hdr : drain (f + 1) n' s' = ((drain f (n' + 1) (gdel n' s')).1, (drain f (n' + 1) (gdel n' s')).2.1, v0 :: (drain f (n' + 1) (gdel n' s')).2.2) := by
      conv => lhs; unfold drain
      rw [hgn]
    rw [hdr] at h1 h2 h3
    dsimp only at h1 h2 h3
    have hlk2 : (mget n' (mapT iL s')).getD (.lit (.int .i64 0)) = iL v0 := by rw [hgT]; rfl
    have hlk3 : (mget n' (mapT iL s')).isSome = true := by rw [hgT]; rfl
    have hdel := mdel_T iL n' s'
    have hat := litL_at (S := w.got.set i (v', l')) (i := i) (q := (v', l')) (by simp [hil])
    have hll := litL_len (w.got.set i (v', l'))
    have hset : ∀ v'', (litL (w.got.set i (v', l'))).set (i * 1) (.lit v'') = litL (w.got.set i (v'', l' ++ [(ys, v0)])) := fun v'' => by
      have := litL_set (w.got.set i (v', l')) i (v'', l' ++ [(ys, v0)])
      rw [List.set_set] at this
      exact this
    have hgl : (w.got.set i (v', l')).length = w.got.length := List.length_set
    have hgl2 : ∀ v'', (w.got.set i (v'', l' ++ [(ys, v0)])).length = w.got.length := fun v'' => List.length_set
    have hil' : i < (w.got.set i (v', l')).length := by rw [hgl]; exact hil
    clear hgT hgn hdr
    repeat (first | refine gG ?_ | refine zBx (fun _ => ?_) | refine zAp (fun _ => ?_))
    refine ac_draw [1, 1, 1, 1, 1, 1, 1, 1, 1, 1, 1, 1, 1, 1] [0, 1, 2, 3, 4, 5, 6, 7, 8, 9, 10, 11, 12, 13] (by kernel_rfl) (by kernel_rfl) ?_
    refine gW ?_
    apply w_q; (focus exact rfl); (focus exact rfl); focus (intro _; (refine zLkro 3 keyNum n' hlk2 hlk3 ?_); exact det_refl)
    refine gW ?_
    refine w_nil ?_
    repeat (first | refine gG ?_ | refine zBx (fun _ => ?_) | refine zAp (fun _ => ?_))
    refine ac_draw [1, 1, 1, 1, 1, 1, 1, 1, 2] [0, 1, 2, 3, 4, 5, 6, 7, 8] (by kernel_rfl) (by kernel_rfl) ?_
    refine gW ?_
    apply w_l; (focus exact rfl); (focus exact rfl); (refine zDelrS 3 keyNum n' hdel ?_)
    refine w_nil ?_
    repeat (first | refine gG ?_ | refine zBx (fun _ => ?_) | refine zAp (fun _ => ?_))
    refine lo_add rfl rfl (r := n' + 1) (by show IntKind.wrap .i64 (n' + 1) = n' + 1; exact IntWalk.i64_in _ (by omega)) ?_
    repeat (first | refine gG ?_ | refine zBx (fun _ => ?_) | refine zAp (fun _ => ?_))
    refine x_row 7 rfl (by rw [hgl]; omega) (fun hv => ?_)
    refine ac_drawT [0, 0, 0, 3, 0, 0, 1, 1, 1, 1, 1, 1, 1, 1, 1, 1, 1, 1, 1, 2, 0, 2] (.fork [0, 1, 2, 4, 5, 6, 7, 8, 9, 10, 11, 12, 13, 14, 15, 16, 17, 18] 3 (.fin [19, 20, 21]) 19 (.fin [3, 20, 21])) (by kernel_rfl) (by kernel_rfl) ?_
    refine wt_fork ?_
    refine gW ?_
    apply w_q; (focus exact rfl); (focus exact rfl); focus (intro _; (refine zIxo i hil' ?_); exact det_refl)
    apply w_q; (focus exact rfl); (focus exact rfl); focus (intro _; (refine lo_as 10 (zElo1 hat ⟨_, _, _, _, _, rfl, rfl, ?_⟩)); exact det_refl)
    refine gW ?_
    refine w_nil ?_
    refine ⟨?_, ?_⟩
    · apply w_a; (focus exact rfl); (focus exact rfl); refine zL1 ⟨⟨[], (List.append_nil _).symm⟩, ?_⟩
      refine w_nil ?_
      refine wt_fin ?_
      apply w_l; (focus exact rfl); (focus exact rfl); (refine zAp (fun _ => ?_))
      apply w_p; (focus exact rfl); (focus exact rfl); focus (intro _; (refine zIxp i hv hil' ?_); exact det_refl)
      apply w_l; (focus exact rfl); (focus exact rfl); (refine zSeo (show i * 1 + 1 ≤ (litL (w.got.set i (v', l'))).length by rw [hll, hgl]; omega) ?_)
      refine w_nil ?_
      rename_i v''
      repeat (first | refine gG ?_ | refine zBx (fun _ => ?_) | refine zAp (fun _ => ?_))
      refine ⟨(f, n' + 1, gdel n' s', v'', l' ++ [(ys, v0)]), ⟨by dsimp only; omega, h1, h2, ?_, by dsimp only; omega, by dsimp only; omega, ?_⟩, by dsimp only; omega, x_wk trivial ?_ (by repeat (first | exact ag_refl | refine ag_upd rfl ?_ | refine ag_at rfl rfl ?_))⟩
      · rw [← h3, List.map_cons, List.append_assoc]; rfl
      · dsimp only; rw [List.length_append, List.length_singleton]; omega
      · dsimp only
        rw [goR, List.length_append, ← go_snoc]
        simp only [hset, hdB, goB, hgl, hgl2]
        rfl
          
    · apply w_l; (focus exact rfl); (focus exact rfl); (refine zAp (fun _ => ?_))
      refine w_nil ?_
      refine wt_fin ?_
      apply w_a; (focus exact rfl); (focus exact rfl); refine zL1 ⟨⟨[], (List.append_nil _).symm⟩, ?_⟩
      apply w_p; (focus exact rfl); (focus exact rfl); focus (intro _; (refine zIxp i hv hil' ?_); exact det_refl)
      apply w_l; (focus exact rfl); (focus exact rfl); (refine zSeo (show i * 1 + 1 ≤ (litL (w.got.set i (v', l'))).length by rw [hll, hgl]; omega) ?_)
      refine w_nil ?_
      rename_i v''
      repeat (first | refine gG ?_ | refine zBx (fun _ => ?_) | refine zAp (fun _ => ?_))
      refine ⟨(f, n' + 1, gdel n' s', v'', l' ++ [(ys, v0)]), ⟨by dsimp only; omega, h1, h2, ?_, by dsimp only; omega, by dsimp only; omega, ?_⟩, by dsimp only; omega, x_wk trivial ?_ (by repeat (first | exact ag_refl | refine ag_upd rfl ?_ | refine ag_at rfl rfl ?_))⟩
      · rw [← h3, List.map_cons, List.append_assoc]; rfl
      · dsimp only; rw [List.length_append, List.length_singleton]; omega
      · dsimp only
        rw [goR, List.length_append, ← go_snoc]
        simp only [hset, hdB, goB, hgl, hgl2]
        rfl
end Go.Proofs.Ytdogdjcjmhogmaa
namespace Go.Proofs.Ytdogdjcjmhogmaa
open Go.RowKit
section
variable {P : Program} {F : Frm} {L : Tab} {d : Option Tmp} {ty : TypeId} {pos : String} {aft : Array Edge} {g : Option (Nat × Bool)} {o : Oper} {ρ : Operand → AV} {hp : List Blk} {K : AV → List Blk → Prop}
theorem lo_hint (j : Nat) (h : LO P F o ρ hp fun a hp' => ∃ i b off, a = .ptr i b off ∧ K (.ptr j b off) hp') : LO P F o ρ hp K := by
  refine ⟨fun M e w he hh => (h.out M e w he hh).mono ?_⟩
  rintro u w' ⟨M', a, hp', ⟨i, b, off, rfl, hK⟩, hx, hh2, hr⟩
  exact ⟨M', _, hp', hK, hx, hh2, by simpa only [RA] using hr⟩
/-- a variable is made, at the end of the blocks; its hint is 0 -/
theorem zAlE {t : TypeId} {ti : TI} {cs : List AV} (h : ∀ b, K (.ptr 0 b 0) (hp ++ [.box b t cs])) (hL : TabOk P L := by exact tok) (ht : L.look t = some ti := by exact rfl) (hz : evl (ti.zero.map fun v => AV.c (.lit v)) = some cs := by exact rfl) : LO P F ⟨d, .alloc t, ty, pos, aft, g⟩ ρ hp K :=
  lo_hint 0 (lo_alloc hL ht fun b => ⟨_, b, 0, rfl, by rw [← evl_eq hz]; exact h b⟩)
/-- it is filled, and stands at the head of the blocks -/
theorem zStE {t : TypeId} {ti : TI} {x y : Operand} {hp1 : List Blk} {b off : Nat} {tb : TypeId} {cs vs cs' : List AV} {v : AV} (hp0 : hp = hp1 ++ [.box b tb cs]) (h : K (.c (.lit undef)) (.box b tb cs' :: hp1)) (hL : TabOk P L := by exact tok) (hx : ρ x = .ptr 0 b off := by exact rfl) (hv : fc (ρ y) = some v := by exact rfl) (ht : L.look t = some ti := by exact rfl) (hc : evl (cellsA v) = some vs := by exact rfl) (h1 : allOne vs = true := by first | exact rfl | assumption) (hl : lenU vs = some ti.size := by exact rfl) (hb : Nat.ble (off + ti.size) cs.length = true := by exact rfl) (hs : evl (spl cs off vs) = some cs' := by exact rfl) :
    LO P F ⟨d, .store t x y, ty, pos, aft, g⟩ ρ hp K := by
  subst hp0
  refine lo_frame [.box b tb cs] hp1 List.perm_append_comm fun F' => ?_
  exact v_store (hp := [.box b tb cs]) (hp' := [.box b tb cs']) hL hx rfl (fc_eq hv) ht hc h1 hl hb hs rfl h
end
/-- parts of a list, in any order -/
theorem perm_parts {α : Type} (L : List (List α)) (σ : List Nat) (h : σ.Perm (List.range L.length)) : L.flatten.Perm (σ.map fun i => L.getD i []).flatten := by
  have e : (List.range L.length).map (fun i => L.getD i []) = L := by
    apply List.ext_getElem
    · simp
    · intro i h1 h2
      simp [List.getD, h2]
  have := (h.map fun i => L.getD i []).flatten
  rw [e] at this
  exact this.symm
theorem erase_not {α : Type} {l : List α} {i : Nat} {a : α} (hn : l.Nodup) (hi : l[i]? = some a) : a ∉ l.eraseIdx i := by
  intro hm
  have hp := erase_perm (l := l) (i := i) (List.getElem?_eq_some_iff.1 hi).1
  rw [(List.getElem?_eq_some_iff.1 hi).2] at hp
  exact (List.nodup_cons.1 ((hp.nodup_iff).1 hn)).1 hm
end Go.Proofs.Ytdogdjcjmhogmaa
