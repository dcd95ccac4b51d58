/- Layouts (printed by lay.py). -/
import Derived.Test.YtcddclkccpfdkaaDoorEv20
set_option linter.unusedSimpArgs false
set_option linter.unusedVariables false
namespace Go.Proofs.YtcddclkccpfdkaaDoor.EV
open Go.RowKit
abbrev lay2 : List Lay := [.int .i64]
abbrev lay3 : List Lay := [.int .i64]
abbrev lay4 : List Lay := [.bool]
abbrev lay5 : List Lay := [.int .u8]
abbrev lay6 : List Lay := [.int .u8]
abbrev lay7 : List Lay := [.int .i64, .int .i64, .bool, .int .u8]
abbrev lay8 : List Lay := [.int .i64, .int .i64, .bool, .int .u8]
abbrev lay9 : List Lay := [.str]
abbrev lay10 : List Lay := [.str]
abbrev lay11 : List Lay := [.str]
abbrev lay12 : List Lay := [.int .u64]
abbrev lay13 : List Lay := [.str, .int .u64]
abbrev lay14 : List Lay := [.str, .int .u64]
abbrev lay21 : List Lay := [.int .i32]
abbrev lay23 : List Lay := [.int .i64, .sl lay9]
abbrev lay24 : List Lay := [.int .i64, .sl lay9]
abbrev lay46 : List Lay := [.int .u64]
abbrev lay48 : List Lay := [.int .u8, .int .u8]
abbrev lay49 : List Lay := [.int .u8, .int .u8]
abbrev lay51 : List Lay := [.int .u32]
abbrev lay61 : List Lay := [.int .u8]
abbrev lay62 : List Lay := [.int .u8]
abbrev lay65 : List Lay := [.int .i32]
abbrev lay66 : List Lay := [.int .i32]
end Go.Proofs.YtcddclkccpfdkaaDoor.EV
